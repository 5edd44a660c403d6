/- The reference's checks. -/
import Derived.Test.YtjjjnpolhbbepaaDoorEnts
import Derived.Test.YtjjjnpolhbbepaaDoorPlainTrip
set_option linter.unusedSimpArgs false
set_option linter.unusedVariables false
namespace Go.Proofs.YtjjjnpolhbbepaaDoor
open Go.RowKit
open Plain
theorem str_byte {s : ByteArray} {k : Nat} (hk : k < s.size) (w : World) :
    (Instr.index 9 (.string s) (.int .i64 (k : Int))).run Tryd.prog w = .ok (.int .u8 (((bytesOf s)[k]?.getD 0 : Nat) : Int)) w := by
  rw [run_index_string w 9 s .i64 _ Tryd.underlying9, dif_pos ⟨by omega, by omega⟩]
  have e : ((k : Int)).toNat = k := by omega
  simp only [e]
  have hl : k < s.data.toList.length := by simpa using hk
  have : (bytesOf s)[k]?.getD 0 = (s[k]'hk).toNat := by
    unfold bytesOf
    rw [List.getElem?_map, List.getElem?_eq_getElem hl]
    rfl
  rw [this]
theorem okc_cases (c : Nat) (hc : c < 256) : (okc c = true ∧ ((97 ≤ c ∧ c ≤ 122) ∨ (c < 97 ∧ 48 ≤ c ∧ c ≤ 57) ∨ c = 45 ∨ c = 95)) ∨ (okc c = false ∧ c ≠ 45 ∧ c ≠ 95 ∧ (c < 48 ∨ (57 < c ∧ c < 97) ∨ 122 < c)) := by
  cases h : okc c
  · right
    unfold okc at h
    simp at h
    refine ⟨rfl, by omega, by omega, by omega⟩
  · left
    unfold okc at h
    simp at h
    refine ⟨rfl, by omega⟩
set_option maxRecDepth 100000 in
set_option maxHeartbeats 2000000 in
theorem named_calls (s : ByteArray) (w : World) (hs : s.size ≤ 9223372036854775807) :
    Calls Tryd.prog 33 #[.string s] w fun e w' => e = .returned (.bool (okName (bytesOf s))) ∧ w = w' := by
  have hlen : (bytesOf s).length = s.size := by unfold bytesOf; simp
  have hb := bytesOf_lt s
  obtain ⟨n, hn⟩ : ∃ n, s.size = n := ⟨_, rfl⟩
  rw [hn] at hs hlen
  have H := Lib.hid (And.intro hn (And.intro hlen hb))
  clear hlen hb
  go_enter Tryd.func33, Tryd.ntmps33
  go_wp2
  go_loop [3] (fun i => ∃ k : Nat, k ≤ n ∧ i = .int .i64 (k : Int) ∧ ((bytesOf s).take k).all okc = true) (fun i => n - (intOf i).toNat)
  case atStart => exact ⟨0, Nat.zero_le _, rfl, rfl⟩
  case round =>
    obtain ⟨k, hk, rfl, ha⟩ := hrel
    by_cases hlt : k < n
    · have hix := fun W => str_byte (s := s) (k := k) (by rw [H.out.1]; exact hlt) W
      have hkl : k < (bytesOf s).length := by rw [H.out.2.1]; exact hlt
      have hc : (bytesOf s)[k]?.getD 0 < 256 := by rw [List.getElem?_eq_getElem hkl]; exact H.out.2.2 _ (List.getElem_mem _)
      have hnext : okc ((bytesOf s)[k]?.getD 0) = true → ((bytesOf s).take (k + 1)).all okc = true := fun h => by
        rw [List.take_add_one, List.getElem?_eq_getElem hkl, Option.toList_some, List.all_append, ha]
        rw [List.getElem?_eq_getElem hkl] at h
        simpa using h
      have hbad : okc ((bytesOf s)[k]?.getD 0) = false → okName (bytesOf s) = false := fun h => by
        rw [List.getElem?_eq_getElem hkl] at h
        have : (bytesOf s).all okc = false := by
          rw [List.all_eq_false]
          exact ⟨_, List.getElem_mem hkl, by simpa using h⟩
        unfold okName; rw [this]; simp
      obtain ⟨c, hcc⟩ : ∃ c, (bytesOf s)[k]?.getD 0 = c := ⟨_, rfl⟩
      rw [hcc] at hix hc hnext hbad
      have HN := Lib.hid (And.intro hnext hbad)
      clear hnext hbad hcc ha hkl
      rcases okc_cases c hc with ⟨hok, hcs⟩ | ⟨hok, h1, h2, hcs⟩
      · have Hok := Lib.hid (HN.out.1 hok)
        clear hok HN hc
        rcases hcs with ⟨a1, a2⟩ | ⟨a1, a2, a3⟩ | rfl | rfl
        · go_wp2
          go_round
          case rel => exact ⟨k + 1, by omega, by go_num, Hok.out⟩
          case measure => simp [intOf]; omega
        · have a4 : ¬ 97 ≤ c := by omega
          go_wp2
          go_round
          case rel => exact ⟨k + 1, by omega, by go_num, Hok.out⟩
          case measure => simp [intOf]; omega
        · go_wp2
          go_round
          case rel => exact ⟨k + 1, by omega, by go_num, Hok.out⟩
          case measure => simp [intOf]; omega
        · go_wp2
          go_round
          case rel => exact ⟨k + 1, by omega, by go_num, Hok.out⟩
          case measure => simp [intOf]; omega
      · have Hok := Lib.hid (HN.out.2 hok)
        have e3 : ((c : Int) == 45) = false := by simp; omega
        have e4 : ((c : Int) == 95) = false := by simp; omega
        clear hok HN hc h1 h2
        rcases hcs with a | ⟨a, b⟩ | a
        · have a2 : ¬ 97 ≤ c := by omega
          have a3 : ¬ 48 ≤ c := by omega
          have a4 : c < 97 := by omega
          go_wp2
          go_ret
          exact ⟨ret_bool Hok.out.symm, rfl⟩
        · have a2 : ¬ 97 ≤ c := by omega
          have a3 : 48 ≤ c := by omega
          have a4 : ¬ c ≤ 57 := by omega
          have e5 : decide ((c : Int) ≤ 57) = false := by simp; omega
          go_wp2
          go_ret
          exact ⟨ret_bool Hok.out.symm, rfl⟩
        · have a2 : 97 ≤ c := by omega
          have a3 : 48 ≤ c := by omega
          have a4 : ¬ c ≤ 57 := by omega
          have a5 : ¬ c ≤ 122 := by omega
          have e5 : decide ((c : Int) ≤ 57) = false := by simp; omega
          have e6 : decide ((c : Int) ≤ 122) = false := by simp; omega
          go_wp2
          go_ret
          exact ⟨ret_bool Hok.out.symm, rfl⟩
    · obtain rfl : k = n := by omega
      have hall : (bytesOf s).all okc = true := by
        rw [List.take_of_length_le (by rw [H.out.2.1]; exact Nat.le_refl _)] at ha; exact ha
      have hok : okName (bytesOf s) = (decide (1 ≤ k) && decide (k ≤ 20)) := by unfold okName; rw [hall, H.out.2.1]; simp
      have HK := Lib.hid hok
      clear hall hok ha H
      by_cases h1 : 1 ≤ k
      · have h1' : 0 < k := by omega
        by_cases h2 : k ≤ 20
        · go_wp2
          go_ret
          exact ⟨(ret_bool (by rw [HK.out, decide_eq_true h1, decide_eq_true h2]; simp; omega) : Ending.returned (.bool (decide ((k : Int) ≤ 20))) = _), rfl⟩
        · have h3 : 20 < k := by omega
          go_wp2
          go_ret
          exact ⟨(ret_bool (by rw [HK.out, decide_eq_false h2, Bool.and_false]; simp; omega) : Ending.returned (.bool (decide ((k : Int) ≤ 20))) = _), rfl⟩
      · have h1' : k ≤ 0 := by omega
        go_wp2
        go_ret
        exact ⟨ret_bool (by rw [HK.out, decide_eq_false h1, Bool.false_and]), rfl⟩

set_option maxHeartbeats 1000000 in
theorem rsum_calls {w : World} {a : Option Addr} {c : Nat} {xs : List Nat} (h : Byts w a xs) (hx : ∀ x ∈ xs, x < 256) :
    Calls Tryd.prog 15 #[.slice a xs.length c] w fun e w' => e = .returned (.int .u32 ((sumB xs : Nat) : Int)) ∧ w = w' := by
  have hm : xs.length ≤ 9223372036854775807 := by have := h.1; rw [byts_len] at this; unfold maxLen at this; omega
  have H := Lib.hid (And.intro h hx)
  obtain ⟨n, hn⟩ : ∃ n, xs.length = n := ⟨_, rfl⟩
  rw [hn] at hm ⊢
  have Hn := Lib.hid hn
  clear h hx hn
  go_enter Tryd.func15, Tryd.ntmps15
  go_wp2
  go_loop [3, 4] (fun s i => ∃ k : Nat, k ≤ n ∧ i = .int .i64 (k : Int) ∧ s = .int .u32 ((sumTo 7 (xs.take k) : Nat) : Int)) (fun _ i => n - (intOf i).toNat)
  case atStart => exact ⟨0, Nat.zero_le _, rfl, rfl⟩
  case round =>
    obtain ⟨k, hk, rfl, rfl⟩ := hrel
    by_cases hlt : k < n
    · obtain ⟨b, o, rfl, hb, hc⟩ := H.out.1.at_ (k := k) (by rw [Hn.out]; exact hlt)
      have hs := sumTo_snoc 7 xs k (by rw [Hn.out]; exact hlt)
      have hx : xs[k]?.getD 0 < 256 := by rw [List.getElem?_eq_getElem (by rw [Hn.out]; exact hlt)]; exact H.out.2 _ (List.getElem_mem _)
      have hsl := sumTo_lt (h := 7) (by omega) (xs.take k)
      obtain ⟨x, hxe⟩ : ∃ x, xs[k]?.getD 0 = x := ⟨_, rfl⟩
      rw [hxe] at hc hx hs
      obtain ⟨s, hse⟩ : ∃ s, sumTo 7 (xs.take k) = s := ⟨_, rfl⟩
      rw [hse] at hs hsl ⊢
      have HS := Lib.hid hs
      clear hs hxe hse
      go_wp2
      go_round
      case rel =>
        refine ⟨k + 1, by omega, by go_num, ?_⟩
        rw [HS.out]
        exact congrArg _ (by omega)
      case measure => simp [intOf]; omega
    · have : k = n := by omega
      subst this
      have e : xs.take k = xs := List.take_of_length_le (by rw [Hn.out]; exact Nat.le_refl _)
      rw [e]
      clear e
      go_wp2
      go_ret
      exact ⟨rfl, rfl⟩
theorem Tryd.info4 : (Tryd.prog.info? 4).map (fun i => (i.zero, i.size, i.bytes)) = some (some (.bool false), 1, 1) := by kernel_rfl
/-- The flags of the points seen. -/
def flags (n : Nat) (l : List Int) : List Value := (List.range n).map fun j : Nat => Value.bool (l.contains (j : Int))
theorem flags_len (n : Nat) (l : List Int) : (flags n l).length = n := by simp [flags]
theorem flags_nil (n : Nat) : List.replicate n (Value.bool false) = flags n [] := by
  unfold flags
  apply List.ext_getElem?
  intro i
  by_cases h : i < n
  · simp [h]
  · simp [h]
theorem flags_get {n : Nat} {l : List Int} {j : Nat} (h : j < n) : (flags n l)[j]? = some (.bool (l.contains (j : Int))) := by
  unfold flags; simp [h]
theorem flags_set {n : Nat} {l : List Int} {j : Nat} : (flags n l).set j (.bool true) = flags n (l ++ [(j : Int)]) := by
  apply List.ext_getElem?
  intro i
  by_cases hi : i < n
  · by_cases hij : j = i
    · subst hij
      rw [List.getElem?_set_self (by rw [flags_len]; exact hi), flags_get hi]; simp
    · rw [List.getElem?_set_ne hij, flags_get hi, flags_get hi]
      have : ¬ (i : Int) = (j : Int) := by omega
      simp [this]
  · rw [List.getElem?_eq_none (by rw [List.length_set, flags_len]; omega), List.getElem?_eq_none (by rw [flags_len]; omega)]
set_option maxRecDepth 100000 in
set_option maxHeartbeats 2000000 in
theorem fine_calls {w : World} {a : Option Addr} {c : Nat} {p : List Int} (h : Ints w a p) (h0 : 1 ≤ p.length) (h64 : p.length ≤ 64) :
    Calls Tryd.prog 60 #[.slice a p.length c, .int .i64 (p.length : Int)] w fun e w' => e = .returned (.bool (fine p)) ∧ Below w.heap.size w w' := by
  have H := Lib.hid h
  obtain ⟨n, hn⟩ : ∃ n, p.length = n := ⟨_, rfl⟩
  rw [hn] at h0 h64 ⊢
  have Hn := Lib.hid hn
  obtain ⟨i4, hi4, hz4, hs4, hb4⟩ := info_parts Tryd.info4
  have I4 := Lib.hid (And.intro hi4 (And.intro hz4 (And.intro hs4 hb4)))
  clear h hn hi4 hz4 hs4 hb4
  go_enter Tryd.func60, Tryd.ntmps60
  go_wp2_with (refine mk1 rfl (.tmp 11) (.tmp 11) 104 4 rfl i4 (.bool false) 1 Tryd.underlying104 I4.out.1 I4.out.2.1 I4.out.2.2.1 I4.out.2.2.2 rfl (by omega) w.heap.size n rfl rfl (by omega) (Nat.le_refl _) ?_; intro w1 h2 h3 h4; rw [flags_nil] at h2; have H1 := Lib.hid (And.intro h2 (And.intro h3 (Nat.le_of_eq h4.symm))); clear h2 h3 h4)
  go_loopw [6] (fun i wr => ∃ k : Nat, k ≤ n ∧ i = .int .i64 (k : Int) ∧ Own wr w.heap.size (.slice (some ⟨w.heap.size, 0, none⟩) n n) 4 (flags n (p.take k)) ∧ w1.grownBy wr (some w.heap.size) ∧ fine p = okFrom n (p.take k).reverse (p.drop k)) (fun i _ => n - (intOf i).toNat)
  case atStart =>
    exact ⟨0, Nat.zero_le _, rfl, H1.out.1, World.grownBy.refl w1 _, by unfold fine; rw [Hn.out]; rfl⟩
  case round =>
    obtain ⟨k, hk, rfl, hs, hg, hf⟩ := hrel
    have hb : Below w.heap.size w wr := ⟨hg.os.trans H1.out.2.1.os, hg.tape.trans H1.out.2.1.tape, hg.output.trans H1.out.2.1.output, Nat.le_trans H1.out.2.1.size hg.size, fun b hb => (hg.block b (Nat.lt_of_lt_of_le hb H1.out.2.1.size) (fun e => by cases e; omega)).trans (H1.out.2.1.block b hb (by simp))⟩
    by_cases hlt : k < n
    · obtain ⟨b, o, rfl, hbl, hc⟩ := H.out.at_ (k := k) (by rw [Hn.out]; exact hlt)
      have hst := okFrom_step (n := n) (p := p) (k := k) (by rw [Hn.out]; exact hlt)
      replace hc := (hb.cell (p := ⟨b, o + k, none⟩) hbl).trans hc
      obtain ⟨x, hx⟩ : ∃ x, p[k]?.getD 0 = x := ⟨_, rfl⟩
      have htk : p.take (k + 1) = p.take k ++ [x] := by
        rw [← hx, List.take_add_one, List.getElem?_eq_getElem (by rw [Hn.out]; exact hlt)]; rfl
      rw [hx] at hst hc
      by_cases hx0 : 0 ≤ x
      · obtain ⟨y, rfl⟩ : ∃ y : Nat, x = (y : Int) := ⟨x.toNat, by omega⟩
        by_cases hxn : (y : Int) < n
        · have hcy := hs.cell y (by rw [flags_len]; omega)
          rw [flags_get (by omega)] at hcy
          have hfy := hs.frozen y
          cases hsn : (p.take k).contains (y : Int)
          · rw [hsn] at hcy
            have hput := hs.put y (.bool true)
            rw [flags_set, ← htk] at hput
            have hY : decide ((y : Int) < n) = true := by simpa using hxn
            have hz : fine p = okFrom n (p.take (k + 1)).reverse (p.drop (k + 1)) := by
              rw [hf, hst, hsn]; simp [hxn]
            have H2 := Lib.hid (And.intro hput (And.intro hg hz))
            clear hs hb hf hst htk hx hsn hput hg hz
            go_wp2
            go_roundw
            case rel =>
              exact ⟨k + 1, by omega, by go_num, H2.out.1, H2.out.2.1.trans (grown_put y _), H2.out.2.2⟩
            case measure => simp [intOf]; omega
          · rw [hsn] at hcy
            have hz : fine p = false := by rw [hf, hst, hsn]; simp
            have H2 := Lib.hid (And.intro hb hz)
            clear hs hb hf hst htk hx hsn hz hg
            go_wp2
            go_ret
            exact ⟨ret_bool H2.out.2.symm, H2.out.1⟩
        · have hz : fine p = false := by rw [hf, hst]; simp [hxn]
          have H2 := Lib.hid (And.intro hb hz)
          clear hs hb hf hst htk hx hz hg
          go_wp2
          go_ret
          exact ⟨ret_bool H2.out.2.symm, H2.out.1⟩
      · have hz : fine p = false := by rw [hf, hst]; simp [hx0]
        have H2 := Lib.hid (And.intro hb hz)
        clear hs hb hf hst htk hx hz hg
        go_wp2
        go_ret
        exact ⟨ret_bool H2.out.2.symm, H2.out.1⟩
    · have : k = n := by omega
      subst this
      have hz : fine p = true := by rw [hf, List.drop_of_length_le (by rw [Hn.out]; exact Nat.le_refl _)]; rfl
      have H2 := Lib.hid (And.intro hb hz)
      clear hs hb hf hz hg
      go_wp2
      go_ret
      exact ⟨ret_bool H2.out.2.symm, H2.out.1⟩
set_option maxHeartbeats 2000000 in
theorem rperm_calls {w : World} {a : Option Addr} {c : Nat} {p : List Int} (h : Ints w a p) :
    Calls Tryd.prog 44 #[.slice a p.length c] w fun e w' => e = .returned (.int .i64 (chkPerm p)) ∧ Below w.heap.size w w' := by
  have hm := h.len
  have hfc := fun h0 h64 => fine_calls (c := c) h h0 h64
  obtain ⟨n, hn⟩ : ∃ n, p.length = n := ⟨_, rfl⟩
  have hcp : chkPerm p = if n < 1 ∨ 64 < n then 2 else chkFine p := by unfold chkPerm chkFine; rw [hn]
  rw [hcp]
  rw [hn] at hm hfc ⊢
  clear h hn hcp
  by_cases h1 : n < 1
  · rw [if_pos (.inl h1)]
    clear hfc
    go_enter Tryd.func44, Tryd.ntmps44
    go_wp2
    go_ret
    exact ⟨rfl, Below.refl _ _⟩
  by_cases h2 : 64 < n
  · rw [if_pos (.inr h2)]
    clear hfc
    go_enter Tryd.func44, Tryd.ntmps44
    go_wp2
    go_ret
    exact ⟨rfl, Below.refl _ _⟩
  rw [if_neg (by omega)]
  have hfc := hfc (by omega) (by omega)
  cases hF : fine p
  · rw [hF] at hfc
    have hz := chkFine_no hF
    rw [← hz]
    have HF := Lib.hid hfc
    clear hfc hF hz
    go_enter Tryd.func44, Tryd.ntmps44
    go_wp2_with (go_at_call 60; refine HF.out.mono ?_; rintro e w1 ⟨rfl, hb1⟩; have HB1 := Lib.hid hb1; clear hb1)
    go_ret
    exact ⟨rfl, HB1.out⟩
  · rw [hF] at hfc
    have hz := chkFine_yes hF
    rw [← hz]
    have HF := Lib.hid hfc
    clear hfc hF hz
    go_enter Tryd.func44, Tryd.ntmps44
    go_wp2_with (go_at_call 60; refine HF.out.mono ?_; rintro e w1 ⟨rfl, hb1⟩; have HB1 := Lib.hid hb1; clear hb1)
    go_ret
    exact ⟨rfl, HB1.out⟩

set_option maxHeartbeats 2000000 in
theorem rgroup_calls {w : World} {g : Option Addr} {c : Nat} (deg : Int) {gens : List (List Int)} (h : Rows w g gens) :
    Calls Tryd.prog 34 #[.agg #[.int .i64 deg, .slice g gens.length c]] w fun e w' => e = .returned (.int .i64 (chkGroup deg gens)) ∧ Below w.heap.size w w' := by
  have hm := h.len
  have H := Lib.hid h
  obtain ⟨n, hn⟩ : ∃ n, gens.length = n := ⟨_, rfl⟩
  have hcp : chkGroup deg gens = if deg < 1 ∨ 64 < deg then 2 else if 16 < n then 4 else chkG deg gens 0 := by unfold chkGroup chkG; rw [hn]; rfl
  rw [hcp]
  rw [hn] at hm ⊢
  have Hn := Lib.hid hn
  clear h hn hcp
  by_cases h1 : deg < 1
  · rw [if_pos (.inl h1)]
    go_enter Tryd.func34, Tryd.ntmps34
    go_wp2
    go_ret
    exact ⟨rfl, (Below.refl _ _).alloc (Nat.le_refl _) _⟩
  by_cases h2 : 64 < deg
  · rw [if_pos (.inr h2)]
    have h1' : 1 ≤ deg := by omega
    go_enter Tryd.func34, Tryd.ntmps34
    go_wp2
    go_ret
    exact ⟨rfl, (Below.refl _ _).alloc (Nat.le_refl _) _⟩
  rw [if_neg (by omega)]
  have h1' : 1 ≤ deg := by omega
  have h2' : deg ≤ 64 := by omega
  clear h1 h2
  by_cases h3 : 16 < n
  · rw [if_pos h3]
    go_enter Tryd.func34, Tryd.ntmps34
    go_wp2
    go_ret
    exact ⟨rfl, (Below.refl _ _).alloc (Nat.le_refl _) _⟩
  rw [if_neg h3]
  go_enter Tryd.func34, Tryd.ntmps34
  go_wp2
  go_loopw [3] (fun i wr => ∃ k : Nat, k ≤ n ∧ i = .int .i64 (k : Int) ∧ Below (w.alloc (.cells #[.int .i64 deg, .slice g n c] 44)).heap.size (w.alloc (.cells #[.int .i64 deg, .slice g n c] 44)) wr ∧ chkG deg gens 0 = chkG deg gens k) (fun i _ => n - (intOf i).toNat)
  case atStart => exact ⟨0, Nat.zero_le _, rfl, Below.refl _ _, rfl⟩
  case round =>
    obtain ⟨k, hk, rfl, hb, hf⟩ := hrel
    have hbW : Below w.heap.size w wr := ((Below.refl w.heap.size w).alloc (Nat.le_refl _) (.cells #[.int .i64 deg, .slice g n c] 44)).trans (hb.mono (by simp))
    have hwl : w.heap.size < wr.heap.size := Nat.lt_of_lt_of_le (by simp) hb.size
    have hbox : wr.cell? ⟨w.heap.size, 0, none⟩ = some (.int .i64 deg) := hb.cell (p := ⟨w.heap.size, 0, none⟩) (by simp) |>.trans (by simp)
    have hbox1 : wr.cell? ⟨w.heap.size, 1, none⟩ = some (.slice g n c) := hb.cell (p := ⟨w.heap.size, 1, none⟩) (by simp) |>.trans (by simp)
    by_cases hlt : k < n
    · obtain ⟨gb, o, b, cb, rfl, hgl, hc, hi, _⟩ := H.out.at_ (k := k) (by rw [Hn.out]; exact hlt)
      replace hc := (hbW.cell (p := ⟨gb, o + k, none⟩) hgl).trans hc
      have hgr := Nat.lt_of_lt_of_le hgl hbW.size
      obtain ⟨p, hp⟩ : ∃ p, gens[k]?.getD [] = p := ⟨_, rfl⟩
      rw [hp] at hc hi
      have hcall := rperm_calls (c := cb) (hi.below hbW)
      have hpl := hi.len
      obtain ⟨m, hm'⟩ : ∃ m, p.length = m := ⟨_, rfl⟩
      have hkn : k < gens.length := by rw [Hn.out]; exact hlt
      by_cases hz : chkPerm p = 0
      · rw [hz] at hcall
        by_cases hl : (m : Int) = deg
        · have hx := chkG_next (deg := deg) hkn hp hz (by rw [hm']; exact hl)
          rw [hm'] at hcall hpl hc
          have HC := Lib.hid hcall
          have H2 := Lib.hid (And.intro hb (And.intro hf (And.intro hx hbW)))
          clear hcall hb hf hx hbW hp hz hm' hi hkn
          have hl2 : ((m : Int) != deg) = false := by rw [hl]; simp
          clear hl
          go_wp2_with (go_at_call 44; refine HC.out.mono ?_; rintro e w2 ⟨rfl, hb2⟩; have hbox2 : w2.cell? ⟨w.heap.size, 0, none⟩ = some (.int .i64 deg) := (hb2.cell (p := ⟨w.heap.size, 0, none⟩) hwl).trans hbox; have hbox3 := (hb2.cell (p := ⟨w.heap.size, 1, none⟩) hwl).trans hbox1; have hc2 := (hb2.cell (p := ⟨gb, o + k, none⟩) hgr).trans hc; have HB2 := Lib.hid hb2; clear hb2)
          go_quiet (fail)
          go_wp2
          go_roundw
          case rel =>
            exact ⟨k + 1, by omega, by go_num, (H2.out.1.trans (HB2.out.mono H2.out.1.size)).trans (below_self_drewN _ _), H2.out.2.1.trans H2.out.2.2.1⟩
          case measure => simp [intOf]; omega
        · have hx := hf.trans (chkG_len hkn hp hz (by rw [hm']; exact hl))
          rw [hm'] at hcall hpl hc
          have HC := Lib.hid hcall
          have H2 := Lib.hid (And.intro hb (And.intro hbW hx))
          have hl2 : ((m : Int) != deg) = true := by simp [hl]
          clear hcall hb hf hx hbW hp hz hm' hi hkn hl
          go_wp2_with (go_at_call 44; refine HC.out.mono ?_; rintro e w2 ⟨rfl, hb2⟩; have hbox2 : w2.cell? ⟨w.heap.size, 0, none⟩ = some (.int .i64 deg) := (hb2.cell (p := ⟨w.heap.size, 0, none⟩) hwl).trans hbox; have hbox3 := (hb2.cell (p := ⟨w.heap.size, 1, none⟩) hwl).trans hbox1; have hc2 := (hb2.cell (p := ⟨gb, o + k, none⟩) hgr).trans hc; have HB2 := Lib.hid hb2; clear hb2)
          go_quiet (fail)
          go_wp2
          go_ret
          exact ⟨ret_int H2.out.2.2.symm, (H2.out.2.1.trans (HB2.out.mono H2.out.2.1.size)).trans (below_self_drewN _ _)⟩
      · have hx := hf.trans (chkG_bad hkn hp hz)
        rw [hm'] at hcall hpl hc
        obtain ⟨z, hze⟩ : ∃ z, chkPerm p = z := ⟨_, rfl⟩
        rw [hze] at hcall hz hx
        have HC := Lib.hid hcall
        have H2 := Lib.hid (And.intro hb (And.intro hbW hx))
        have hz2 : (z != 0) = true := by simp [hz]
        clear hcall hb hf hx hbW hp hz hm' hi hkn hze
        go_wp2_with (go_at_call 44; refine HC.out.mono ?_; rintro e w2 ⟨rfl, hb2⟩; have HB2 := Lib.hid hb2; clear hb2)
        go_ret
        exact ⟨ret_int H2.out.2.2.symm, H2.out.2.1.trans (HB2.out.mono H2.out.2.1.size)⟩
    · have : k = n := by omega
      subst this
      have hx := hf.trans (chkG_end (by rw [Hn.out]; exact Nat.le_refl _))
      have H2 := Lib.hid (And.intro hbW hx)
      clear hb hf hbW hx
      go_wp2
      go_ret
      exact ⟨ret_int H2.out.2.symm, H2.out.1⟩
set_option maxRecDepth 100000 in
set_option maxHeartbeats 2000000 in
theorem rcheck_calls {w : World} {a : Option Addr} {c : Nat} {l : List Ent} (h : Ents w a l) :
    Calls Tryd.prog 12 #[.slice a l.length c] w fun e w' => e = .returned (.int .i64 (chk l)) ∧ Below w.heap.size w w' := by
  have hm := h.len
  have H := Lib.hid h
  obtain ⟨n, hn⟩ : ∃ n, l.length = n := ⟨_, rfl⟩
  have hcp : chk l = if 200 < n then 4 else chkAt l 0 := by unfold chk chkAt; rw [hn]; rfl
  rw [hcp]
  rw [hn] at hm ⊢
  have Hn := Lib.hid hn
  clear h hn hcp
  by_cases h3 : 200 < n
  · rw [if_pos h3]
    go_enter Tryd.func12, Tryd.ntmps12
    go_wp2
    go_ret
    exact ⟨rfl, Below.refl _ _⟩
  rw [if_neg h3]
  go_enter Tryd.func12, Tryd.ntmps12
  go_wp2
  go_loopw [3] (fun i wr => ∃ k : Nat, k ≤ n ∧ i = .int .i64 (k : Int) ∧ Below w.heap.size w wr ∧ chkAt l 0 = chkAt l k) (fun i _ => n - (intOf i).toNat)
  case atStart => exact ⟨0, Nat.zero_le _, rfl, Below.refl _ _, rfl⟩
  case round =>
    obtain ⟨k, hk, rfl, hb, hf⟩ := hrel
    by_cases hlt : k < n
    · have hkn : k < l.length := by rw [Hn.out]; exact hlt
      obtain ⟨e, he⟩ : ∃ e, l[k]? = some e := ⟨_, List.getElem?_eq_getElem hkn⟩
      obtain ⟨B, o, g, cg, rfl, hBl, c1, c2, c3, hr⟩ := H.out.at_ k e he
      replace c1 := (hb.cell (p := ⟨B, o + k * 3, none⟩) hBl).trans c1
      replace c2 := (hb.cell (p := ⟨B, o + k * 3 + 1, none⟩) hBl).trans c2
      replace c3 := (hb.cell (p := ⟨B, o + k * 3 + 2, none⟩) hBl).trans c3
      have hBr := Nat.lt_of_lt_of_le hBl hb.size
      have hnm := named_calls e.name wr (H.out.name e (List.mem_of_getElem? he))
      have hgl := hr.len
      obtain ⟨m, hm2⟩ : ∃ m, e.gens.length = m := ⟨_, rfl⟩
      have hgr := fun q => rgroup_calls (c := cg) e.deg ((hr.below hb).drewN q)
      rw [hm2] at c3 hgl
      rw [hm2] at hgr
      cases hok : okName (bytesOf e.name)
      · have hx := hf.trans (chkAt_name he hok)
        rw [hok] at hnm
        have HN := Lib.hid hnm
        have H2 := Lib.hid (And.intro hb hx)
        clear hnm hgr hb hf hx he hok hr hm2
        go_wp2_with (go_at_call 33; refine HN.out.mono ?_; rintro e w2 ⟨rfl, rfl⟩)
        go_ret
        exact ⟨ret_int H2.out.2.symm, H2.out.1⟩
      · rw [hok] at hnm
        rcases Nat.eq_zero_or_pos k with hk0 | hk0
        · have ho : okLast l k e := by subst hk0; trivial
          have hk1 : ¬ 0 < k := by omega
          by_cases hz : chkGroup e.deg e.gens = 0
          · have hx := hf.trans (chkAt_next he hok ho hz)
            rw [hz] at hgr
            have HN := Lib.hid hnm
            have HG := Lib.hid hgr
            have H2 := Lib.hid (And.intro hb hx)
            clear hnm hgr hb hf hx he hok hr hm2 hz ho hk0
            go_wp2_with (go_at_call 33; refine HN.out.mono ?_; rintro e w2 ⟨rfl, rfl⟩)
            go_quiet (fail)
            go_wp2_with (go_at_call 34; refine (HG.out _).mono ?_; rintro e w4 ⟨rfl, hb4⟩; have HB4 := Lib.hid hb4; clear hb4)
            exact ⟨⟨k + 1, by omega, by go_num, (below_drewN H2.out.1 _).trans (HB4.out.mono H2.out.1.size), H2.out.2⟩, by simp [intOf]; omega⟩
          · have hx := hf.trans (chkAt_group he hok ho hz)
            obtain ⟨z, hze⟩ : ∃ z, chkGroup e.deg e.gens = z := ⟨_, rfl⟩
            rw [hze] at hgr hz hx
            have hz2 : (z != 0) = true := by simp [hz]
            have HN := Lib.hid hnm
            have HG := Lib.hid hgr
            have H2 := Lib.hid (And.intro hb hx)
            clear hnm hgr hb hf hx he hok hr hm2 hz ho hze hk0
            go_wp2_with (go_at_call 33; refine HN.out.mono ?_; rintro e w2 ⟨rfl, rfl⟩)
            go_quiet (fail)
            go_wp2_with (go_at_call 34; refine (HG.out _).mono ?_; rintro e w4 ⟨rfl, hb4⟩; have HB4 := Lib.hid hb4; clear hb4)
            go_ret
            exact ⟨ret_int H2.out.2.symm, (below_drewN H2.out.1 _).trans (HB4.out.mono H2.out.1.size)⟩
        · obtain ⟨j, rfl⟩ : ∃ j, k = j + 1 := ⟨k - 1, by omega⟩
          obtain ⟨d, hd⟩ : ∃ d, l[j]? = some d := ⟨_, List.getElem?_eq_getElem (by omega)⟩
          obtain ⟨B', o', _, _, hB', hBl', c4, _⟩ := H.out.at_ j d hd
          injection hB' with hB'
          injection hB' with e1 e2 _
          subst e1
          subst e2
          replace c4 := (hb.cell (p := ⟨B, o + j * 3, none⟩) hBl').trans c4
          have hj : (j : Int) < n := by omega
          have hrl := run_leq e.name d.name
          have hwj : IntKind.i64.wrap (j : Int) = (j : Int) := IntWalk.i64_in _ (by omega)
          have hj0 : (0 : Int) ≤ (j : Int) := by omega
          cases hle : leS e.name d.name
          · have ho : okLast l (j + 1) e := ⟨d, hd, hle⟩
            rw [hle] at hrl
            by_cases hz : chkGroup e.deg e.gens = 0
            · have hx := hf.trans (chkAt_next he hok ho hz)
              rw [hz] at hgr
              have HN := Lib.hid hnm
              have HG := Lib.hid hgr
              have H2 := Lib.hid (And.intro hb hx)
              clear hnm hgr hb hf hx he hok hr hm2 hz ho hd
              go_wp2_with (go_at_call 33; refine HN.out.mono ?_; rintro e w2 ⟨rfl, rfl⟩)
              go_quiet (fail)
              go_wp2_with (go_at_call 34; refine (HG.out _).mono ?_; rintro e w4 ⟨rfl, hb4⟩; have HB4 := Lib.hid hb4; clear hb4)
              exact ⟨⟨j + 1 + 1, by omega, by go_num, (below_drewN H2.out.1 _).trans (HB4.out.mono H2.out.1.size), H2.out.2⟩, by simp [intOf]; omega⟩
            · have hx := hf.trans (chkAt_group he hok ho hz)
              obtain ⟨z, hze⟩ : ∃ z, chkGroup e.deg e.gens = z := ⟨_, rfl⟩
              rw [hze] at hgr hz hx
              have hz2 : (z != 0) = true := by simp [hz]
              have HN := Lib.hid hnm
              have HG := Lib.hid hgr
              have H2 := Lib.hid (And.intro hb hx)
              clear hnm hgr hb hf hx he hok hr hm2 hz ho hze hd
              go_wp2_with (go_at_call 33; refine HN.out.mono ?_; rintro e w2 ⟨rfl, rfl⟩)
              go_quiet (fail)
              go_wp2_with (go_at_call 34; refine (HG.out _).mono ?_; rintro e w4 ⟨rfl, hb4⟩; have HB4 := Lib.hid hb4; clear hb4)
              go_ret
              exact ⟨ret_int H2.out.2.symm, (below_drewN H2.out.1 _).trans (HB4.out.mono H2.out.1.size)⟩
          · have hx := hf.trans (chkAt_order he hd hok hle)
            rw [hle] at hrl
            have HN := Lib.hid hnm
            have H2 := Lib.hid (And.intro hb hx)
            clear hnm hgr hb hf hx he hok hr hm2 hd
            go_wp2_with (go_at_call 33; refine HN.out.mono ?_; rintro e w2 ⟨rfl, rfl⟩)
            go_quiet (fail)
            go_wp2
            go_ret
            exact ⟨ret_int H2.out.2.symm, below_drewN H2.out.1 _⟩
    · have : k = n := by omega
      subst this
      have hx := hf.trans (chkAt_end (by rw [Hn.out]; exact Nat.le_refl _))
      have H2 := Lib.hid (And.intro hb hx)
      clear hb hf hx
      go_wp2
      go_ret
      exact ⟨ret_int H2.out.2.symm, H2.out.1⟩
end Go.Proofs.YtjjjnpolhbbepaaDoor
