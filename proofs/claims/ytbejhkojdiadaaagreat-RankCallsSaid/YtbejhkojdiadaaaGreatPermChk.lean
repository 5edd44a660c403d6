/- The checks of permutations, of the program and of the reference. -/
import Derived.Test.YtbejhkojdiadaaaGreatTowerW
set_option linter.unusedSimpArgs false
set_option linter.unusedVariables false
namespace Go.Proofs.YtbejhkojdiadaaaGreat
open Go.RowKit PlainPm
def okFrom (n : Nat) : List Int → List Int → Bool
  | _, [] => true
  | seen, x :: r => decide (0 ≤ x) && decide (x < n) && !(seen.contains x) && okFrom n (x :: seen) r
def fine (p : List Int) : Bool := okFrom p.length [] p
def chkPerm (p : List Int) : Int := if p.length < 1 ∨ 64 < p.length then 2 else if fine p then 0 else 3
theorem okFrom_iff (n : Nat) : ∀ (r seen : List Int), okFrom n seen r = true ↔ (∀ x ∈ r, 0 ≤ x ∧ x < n) ∧ r.Nodup ∧ ∀ x ∈ r, x ∉ seen
  | [], seen => by simp [okFrom]
  | x :: r, seen => by
    rw [okFrom]
    simp only [Bool.and_eq_true, decide_eq_true_eq, Bool.not_eq_true', List.contains_eq_mem, decide_eq_false_iff_not]
    rw [okFrom_iff n r (x :: seen)]
    simp only [List.mem_cons, List.nodup_cons, forall_eq_or_imp]
    constructor
    · rintro ⟨⟨⟨h1, h2⟩, h3⟩, h4, h5, h6⟩
      exact ⟨⟨⟨h1, h2⟩, h4⟩, ⟨fun hx => h6 x hx (.inl rfl), h5⟩, h3, fun y hy hs => h6 y hy (.inr hs)⟩
    · rintro ⟨⟨⟨h1, h2⟩, h4⟩, ⟨h5, h6⟩, h3, h7⟩
      exact ⟨⟨⟨h1, h2⟩, h3⟩, h4, h6, fun y hy => by rintro (rfl | hs); exact h5 hy; exact h7 y hy hs⟩
theorem okFrom_step {n : Nat} {p : List Int} {k : Nat} (hk : k < p.length) : okFrom n (p.take k).reverse (p.drop k) =
    (decide (0 ≤ p[k]?.getD 0) && decide (p[k]?.getD 0 < n) && !((p.take k).contains (p[k]?.getD 0)) && okFrom n (p.take (k + 1)).reverse (p.drop (k + 1))) := by
  rw [List.drop_eq_getElem_cons hk, okFrom, List.getElem?_eq_getElem hk, Option.getD_some, List.take_add_one, List.getElem?_eq_getElem hk, Option.toList_some, List.reverse_append]
  simp
/-- The array of the points seen. -/
def Seen (w : World) (Z : Nat) (l : List Int) : Prop := Z < w.heap.size ∧ ∀ j : Nat, j < 64 → w.cell? ⟨Z, j, none⟩ = some (.bool (l.contains (j : Int))) ∧ w.frozen? ⟨Z, j, none⟩ = false
theorem Seen.new {w : World} {cs : Array Value} {T : TypeId} (h : cs.toList = List.replicate 64 (Value.bool false)) : Seen (w.alloc (.cells cs T)) w.heap.size [] := by
  have hs : cs.size = 64 := by rw [← Array.length_toList, h, List.length_replicate]
  have hh := heap_new w (.cells cs T)
  refine ⟨?_, fun j hj => ?_⟩
  · rcases Nat.lt_or_ge w.heap.size (w.alloc (.cells cs T)).heap.size with hl | hl
    · exact hl
    · rw [Array.getElem?_eq_none hl] at hh; cases hh
  have hg : cs[j]? = some (.bool false) := by rw [← Array.getElem?_toList, h, List.getElem?_replicate, if_pos hj]
  constructor
  · unfold World.cell?
    simp only [hh]
    exact hg
  · unfold World.frozen?
    simp only [hh]
    simp
theorem Seen.put {w : World} {Z : Nat} {l : List Int} (h : Seen w Z l) (x : Nat) (hx : x < 64) : Seen (w.setCell ⟨Z, x, none⟩ (.bool true)) Z (l ++ [(x : Int)]) := by
  refine ⟨by simp [World.setCell]; exact h.1, fun j hj => ⟨?_, (World.frozen?_setCell _ _ _ _).trans (h.2 j hj).2⟩⟩
  by_cases e : j = x
  · subst e
    rw [World.cell?_setCell_same _ _ _ (h.2 j hj).1]
    simp
  · rw [World.cell?_setCell_other _ _ _ _ (by intro e'; simp only [Addr.mk.injEq] at e'; omega), (h.2 j hj).1]
    have : ¬ (j : Int) = (x : Int) := by omega
    simp [this]
def chkFine (p : List Int) : Int := if fine p then 0 else 3
theorem chkFine_yes {p : List Int} (h : fine p = true) : 0 = chkFine p := by unfold chkFine; rw [h]; rfl
theorem chkFine_no {p : List Int} (h : fine p = false) : 3 = chkFine p := by unfold chkFine; rw [h]; rfl
set_option maxHeartbeats 2000000 in
theorem perm_calls {w : World} {a : Option Addr} {c : Nat} {p : List Int} (h : Ints w a p) :
    Calls Tryz.prog 92 #[.slice a p.length c] w fun e w' => e = .returned (.int .i64 (chkPerm p)) ∧ Below w.heap.size w w' := by
  have hm := h.len
  have H := Lib.hid h
  obtain ⟨n, hn⟩ : ∃ n, p.length = n := ⟨_, rfl⟩
  have hcp : chkPerm p = if n < 1 ∨ 64 < n then 2 else chkFine p := by unfold chkPerm chkFine; rw [hn]
  rw [hcp]
  rw [hn] at hm ⊢
  have Hn := Lib.hid hn
  clear h hn hcp
  by_cases h1 : n < 1
  · rw [if_pos (.inl h1)]
    go_enter Tryz.func92, Tryz.ntmps92
    go_wp2
    go_ret
    exact ⟨rfl, Below.refl _ _⟩
  by_cases h2 : 64 < n
  · rw [if_pos (.inr h2)]
    go_enter Tryz.func92, Tryz.ntmps92
    go_wp2
    go_ret
    exact ⟨rfl, Below.refl _ _⟩
  rw [if_neg (by omega)]
  go_enter Tryz.func92, Tryz.ntmps92
  go_wp2
  go_loopw [16] (fun i wr => ∃ k : Nat, k ≤ n ∧ i = .int .i64 (k : Int) ∧ Seen wr w.heap.size (p.take k) ∧ Below w.heap.size w wr ∧ fine p = okFrom n (p.take k).reverse (p.drop k)) (fun i _ => n - (intOf i).toNat)
  case atStart =>
    exact ⟨0, Nat.zero_le _, rfl, Seen.new rfl, (Below.refl _ _).alloc (Nat.le_refl _) _, by unfold fine; rw [Hn.out]; rfl⟩
  case round =>
    obtain ⟨k, hk, rfl, hs, hb, hf⟩ := hrel
    by_cases hlt : k < n
    · obtain ⟨b, o, rfl, hbl, hc⟩ := H.out.at_ (k := k) (by rw [Hn.out]; exact hlt)
      have hst := okFrom_step (n := n) (p := p) (k := k) (by rw [Hn.out]; exact hlt)
      replace hc := (hb.cell (p := ⟨b, o + k, none⟩) hbl).trans hc
      obtain ⟨x, hx⟩ : ∃ x, p[k]?.getD 0 = x := ⟨_, rfl⟩
      have htk : p.take (k + 1) = p.take k ++ [x] := by
        rw [← hx, List.take_add_one, List.getElem?_eq_getElem (by rw [Hn.out]; exact hlt)]; rfl
      rw [hx] at hst hc
      by_cases hx0 : 0 ≤ x
      · obtain ⟨y, rfl⟩ : ∃ y : Nat, x = (y : Int) := ⟨x.toNat, by omega⟩
        by_cases hxn : (y : Int) < n
        · obtain ⟨hcy, hfy⟩ := hs.2 y (by omega)
          cases hsn : (p.take k).contains (y : Int)
          · rw [hsn] at hcy
            have hY : decide ((y : Int) < n) = true := by simpa using hxn
            have H2 := Lib.hid (And.intro hs (And.intro hb (And.intro hf (And.intro hst (And.intro htk hsn)))))
            clear hs hb hf hst htk hx hsn
            go_wp2
            go_roundw
            case rel =>
              refine ⟨k + 1, by omega, by go_num, ?_, H2.out.2.1.setCell (Nat.le_refl _) _, ?_⟩
              · rw [H2.out.2.2.2.2.1]; exact H2.out.1.put y (by omega)
              · rw [H2.out.2.2.1, H2.out.2.2.2.1, H2.out.2.2.2.2.2]; simp [hxn]
            case measure => simp [intOf]; omega
          · rw [hsn] at hcy
            have hz : fine p = false := by rw [hf, hst, hsn]; simp
            have H2 := Lib.hid (And.intro hb hz)
            clear hs hb hf hst htk hx hsn hz
            go_wp2
            go_ret
            exact ⟨ret_int (chkFine_no H2.out.2), H2.out.1⟩
        · have hz : fine p = false := by rw [hf, hst]; simp [hxn]
          have H2 := Lib.hid (And.intro hb hz)
          clear hs hb hf hst htk hx hz
          go_wp2
          go_ret
          exact ⟨ret_int (chkFine_no H2.out.2), H2.out.1⟩
      · have hz : fine p = false := by rw [hf, hst]; simp [hx0]
        have H2 := Lib.hid (And.intro hb hz)
        clear hs hb hf hst htk hx hz
        go_wp2
        go_ret
        exact ⟨ret_int (chkFine_no H2.out.2), H2.out.1⟩
    · have : k = n := by omega
      subst this
      have hz : fine p = true := by rw [hf, List.drop_of_length_le (by rw [Hn.out]; exact Nat.le_refl _)]; rfl
      have H2 := Lib.hid (And.intro hb hz)
      clear hs hb hf hz
      go_wp2
      go_ret
      exact ⟨ret_int (chkFine_yes H2.out.2), H2.out.1⟩

theorem Tryz.info4 : (Tryz.prog.info? 4).map (fun i => (i.zero, i.size, i.bytes)) = some (some (.bool false), 1, 1) := by kernel_rfl
/-- The flags of the points seen. -/
def flags (n : Nat) (l : List Int) : List Value := (List.range n).map fun j : Nat => Value.bool (l.contains (j : Int))
theorem flags_len (n : Nat) (l : List Int) : (flags n l).length = n := by simp [flags]
theorem flags_nil (n : Nat) : List.replicate n (Value.bool false) = flags n [] := by
  unfold flags
  apply List.ext_getElem?
  intro i
  by_cases h : i < n
  · simp [h]
  · simp [h]
theorem flags_get {n : Nat} {l : List Int} {j : Nat} (h : j < n) : (flags n l)[j]? = some (.bool (l.contains (j : Int))) := by
  unfold flags; simp [h]
theorem flags_set {n : Nat} {l : List Int} {j : Nat} : (flags n l).set j (.bool true) = flags n (l ++ [(j : Int)]) := by
  apply List.ext_getElem?
  intro i
  by_cases hi : i < n
  · by_cases hij : j = i
    · subst hij
      rw [List.getElem?_set_self (by rw [flags_len]; exact hi), flags_get hi]; simp
    · rw [List.getElem?_set_ne hij, flags_get hi, flags_get hi]
      have : ¬ (i : Int) = (j : Int) := by omega
      simp [this]
  · rw [List.getElem?_eq_none (by rw [List.length_set, flags_len]; omega), List.getElem?_eq_none (by rw [flags_len]; omega)]
set_option maxRecDepth 100000 in
set_option maxHeartbeats 2000000 in
theorem fine_calls {w : World} {a : Option Addr} {c : Nat} {p : List Int} (h : Ints w a p) (h0 : 1 ≤ p.length) (h64 : p.length ≤ 64) :
    Calls Tryz.prog 126 #[.slice a p.length c, .int .i64 (p.length : Int)] w fun e w' => e = .returned (.bool (fine p)) ∧ Below w.heap.size w w' := by
  have H := Lib.hid h
  obtain ⟨n, hn⟩ : ∃ n, p.length = n := ⟨_, rfl⟩
  rw [hn] at h0 h64 ⊢
  have Hn := Lib.hid hn
  obtain ⟨i4, hi4, hz4, hs4, hb4⟩ := info_parts Tryz.info4
  have I4 := Lib.hid (And.intro hi4 (And.intro hz4 (And.intro hs4 hb4)))
  clear h hn hi4 hz4 hs4 hb4
  go_enter Tryz.func126, Tryz.ntmps126
  go_wp2_with (refine mk1 rfl (.tmp 11) (.tmp 11) 166 4 rfl i4 (.bool false) 1 Tryz.underlying166 I4.out.1 I4.out.2.1 I4.out.2.2.1 I4.out.2.2.2 rfl (by omega) w.heap.size n rfl rfl (by omega) (Nat.le_refl _) ?_; intro w1 h2 h3 h4; rw [flags_nil] at h2; have H1 := Lib.hid (And.intro h2 (And.intro h3 (Nat.le_of_eq h4.symm))); clear h2 h3 h4)
  go_loopw [6] (fun i wr => ∃ k : Nat, k ≤ n ∧ i = .int .i64 (k : Int) ∧ Own wr w.heap.size (.slice (some ⟨w.heap.size, 0, none⟩) n n) 4 (flags n (p.take k)) ∧ w1.grownBy wr (some w.heap.size) ∧ fine p = okFrom n (p.take k).reverse (p.drop k)) (fun i _ => n - (intOf i).toNat)
  case atStart =>
    exact ⟨0, Nat.zero_le _, rfl, H1.out.1, World.grownBy.refl w1 _, by unfold fine; rw [Hn.out]; rfl⟩
  case round =>
    obtain ⟨k, hk, rfl, hs, hg, hf⟩ := hrel
    have hb : Below w.heap.size w wr := ⟨hg.os.trans H1.out.2.1.os, hg.tape.trans H1.out.2.1.tape, hg.output.trans H1.out.2.1.output, Nat.le_trans H1.out.2.1.size hg.size, fun b hb => (hg.block b (Nat.lt_of_lt_of_le hb H1.out.2.1.size) (fun e => by cases e; omega)).trans (H1.out.2.1.block b hb (by simp))⟩
    by_cases hlt : k < n
    · obtain ⟨b, o, rfl, hbl, hc⟩ := H.out.at_ (k := k) (by rw [Hn.out]; exact hlt)
      have hst := okFrom_step (n := n) (p := p) (k := k) (by rw [Hn.out]; exact hlt)
      replace hc := (hb.cell (p := ⟨b, o + k, none⟩) hbl).trans hc
      obtain ⟨x, hx⟩ : ∃ x, p[k]?.getD 0 = x := ⟨_, rfl⟩
      have htk : p.take (k + 1) = p.take k ++ [x] := by
        rw [← hx, List.take_add_one, List.getElem?_eq_getElem (by rw [Hn.out]; exact hlt)]; rfl
      rw [hx] at hst hc
      by_cases hx0 : 0 ≤ x
      · obtain ⟨y, rfl⟩ : ∃ y : Nat, x = (y : Int) := ⟨x.toNat, by omega⟩
        by_cases hxn : (y : Int) < n
        · have hcy := hs.cell y (by rw [flags_len]; omega)
          rw [flags_get (by omega)] at hcy
          have hfy := hs.frozen y
          cases hsn : (p.take k).contains (y : Int)
          · rw [hsn] at hcy
            have hput := hs.put y (.bool true)
            rw [flags_set, ← htk] at hput
            have hY : decide ((y : Int) < n) = true := by simpa using hxn
            have hz : fine p = okFrom n (p.take (k + 1)).reverse (p.drop (k + 1)) := by
              rw [hf, hst, hsn]; simp [hxn]
            have H2 := Lib.hid (And.intro hput (And.intro hg hz))
            clear hs hb hf hst htk hx hsn hput hg hz
            go_wp2
            go_roundw
            case rel =>
              exact ⟨k + 1, by omega, by go_num, H2.out.1, H2.out.2.1.trans (grown_put y _), H2.out.2.2⟩
            case measure => simp [intOf]; omega
          · rw [hsn] at hcy
            have hz : fine p = false := by rw [hf, hst, hsn]; simp
            have H2 := Lib.hid (And.intro hb hz)
            clear hs hb hf hst htk hx hsn hz hg
            go_wp2
            go_ret
            exact ⟨ret_bool H2.out.2.symm, H2.out.1⟩
        · have hz : fine p = false := by rw [hf, hst]; simp [hxn]
          have H2 := Lib.hid (And.intro hb hz)
          clear hs hb hf hst htk hx hz hg
          go_wp2
          go_ret
          exact ⟨ret_bool H2.out.2.symm, H2.out.1⟩
      · have hz : fine p = false := by rw [hf, hst]; simp [hx0]
        have H2 := Lib.hid (And.intro hb hz)
        clear hs hb hf hst htk hx hz hg
        go_wp2
        go_ret
        exact ⟨ret_bool H2.out.2.symm, H2.out.1⟩
    · have : k = n := by omega
      subst this
      have hz : fine p = true := by rw [hf, List.drop_of_length_le (by rw [Hn.out]; exact Nat.le_refl _)]; rfl
      have H2 := Lib.hid (And.intro hb hz)
      clear hs hb hf hz hg
      go_wp2
      go_ret
      exact ⟨ret_bool H2.out.2.symm, H2.out.1⟩
set_option maxHeartbeats 2000000 in
theorem rperm_calls {w : World} {a : Option Addr} {c : Nat} {p : List Int} (h : Ints w a p) :
    Calls Tryz.prog 91 #[.slice a p.length c] w fun e w' => e = .returned (.int .i64 (chkPerm p)) ∧ Below w.heap.size w w' := by
  have hm := h.len
  have hfc := fun h0 h64 => fine_calls (c := c) h h0 h64
  obtain ⟨n, hn⟩ : ∃ n, p.length = n := ⟨_, rfl⟩
  have hcp : chkPerm p = if n < 1 ∨ 64 < n then 2 else chkFine p := by unfold chkPerm chkFine; rw [hn]
  rw [hcp]
  rw [hn] at hm hfc ⊢
  clear h hn hcp
  by_cases h1 : n < 1
  · rw [if_pos (.inl h1)]
    clear hfc
    go_enter Tryz.func91, Tryz.ntmps91
    go_wp2
    go_ret
    exact ⟨rfl, Below.refl _ _⟩
  by_cases h2 : 64 < n
  · rw [if_pos (.inr h2)]
    clear hfc
    go_enter Tryz.func91, Tryz.ntmps91
    go_wp2
    go_ret
    exact ⟨rfl, Below.refl _ _⟩
  rw [if_neg (by omega)]
  have hfc := hfc (by omega) (by omega)
  cases hF : fine p
  · rw [hF] at hfc
    have hz := chkFine_no hF
    rw [← hz]
    have HF := Lib.hid hfc
    clear hfc hF hz
    go_enter Tryz.func91, Tryz.ntmps91
    go_wp2_with (go_at_call 126; refine HF.out.mono ?_; rintro e w1 ⟨rfl, hb1⟩; have HB1 := Lib.hid hb1; clear hb1)
    go_ret
    exact ⟨rfl, HB1.out⟩
  · rw [hF] at hfc
    have hz := chkFine_yes hF
    rw [← hz]
    have HF := Lib.hid hfc
    clear hfc hF hz
    go_enter Tryz.func91, Tryz.ntmps91
    go_wp2_with (go_at_call 126; refine HF.out.mono ?_; rintro e w1 ⟨rfl, hb1⟩; have HB1 := Lib.hid hb1; clear hb1)
    go_ret
    exact ⟨rfl, HB1.out⟩

end Go.Proofs.YtbejhkojdiadaaaGreat
