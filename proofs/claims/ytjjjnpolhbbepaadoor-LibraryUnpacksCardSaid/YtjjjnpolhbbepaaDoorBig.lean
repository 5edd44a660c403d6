/- big: the bytes of a number behind a list of bytes. -/
import Derived.Test.YtjjjnpolhbbepaaDoorWrite
import Derived.Deep.RegionHeld3
import Derived.Deep.RegionLawGrows
set_option linter.unusedSimpArgs false
set_option linter.unusedVariables false
namespace Go.Proofs.YtjjjnpolhbbepaaDoor
open Go.RowKit
theorem grown_ad {w w1 : World} {o : Obj} {r : Option Nat} (h : (w.alloc o).drew.grownBy w1 r) : w.grownBy w1 r :=
  (grown_alloc w o r).trans ⟨h.os, h.tape, h.output, h.size, h.block⟩
theorem Wr.mid {w w1 : World} {B p : Nat} {v : Value} {xs : List Nat} (h : Wr w B p v xs) (hg : w.grownBy w1 v.ownBlock) : w1.cell? ⟨p, 0, none⟩ = some v ∧ w1.frozen? ⟨p, 0, none⟩ = false := by
  have hb := hg.block p h.lt (fun e => h.ne e.symm)
  exact ⟨(World.cell?_of_block (a := ⟨p, 0, none⟩) hb).trans h.cell, (World.frozen?_of_block (a := ⟨p, 0, none⟩) hb).trans h.fr⟩
theorem Wr.appended {w w1 : World} {B p g cap n : Nat} {v : Value} {xs : List Nat} (h : Wr w B p v xs) {u : Int} (b : Nat) (hu : u = (b : Int)) (hl : n = (byts xs).length)
    (ho : w1.ownsRow B 5 1 (.slice (some ⟨g, 0, none⟩) (n + 1) cap) (n + 1) (byts xs ++ [.int .u8 u])) (hg : w.grownBy w1 v.ownBlock) (hn : v.ownBlock = some g ∨ w.heap.size ≤ g) :
    WrTo w (w1.setCell ⟨p, 0, none⟩ (.slice (some ⟨g, 0, none⟩) (n + 1) cap)) B p v (xs ++ [b]) := by
  subst hu; subst hl
  refine h.stored (v' := .slice (some ⟨g, 0, none⟩) ((byts xs).length + 1) cap) ?_ hg ?_
  · unfold Own
    have : (byts (xs ++ [b])).length = (byts xs).length + 1 := by simp [byts_len]
    rw [this, byts_app]
    exact ho
  · rcases hn with e | e
    · exact .inl e.symm
    · exact .inr ⟨g, rfl, e⟩
/-- The cell at p holds a slice that is full: of a literal. -/
structure Lit (w : World) (B p : Nat) (v : Value) (xs : List Nat) : Prop where
  cell : w.cell? ⟨p, 0, none⟩ = some v
  fr : w.frozen? ⟨p, 0, none⟩ = false
  bp : B ≤ p
  lt : p < w.heap.size
  row : ∃ g, v = .slice (some ⟨g, 0, none⟩) xs.length xs.length ∧ ∀ j u, (byts xs)[j]? = some u → w.cell? ⟨g, 0 + j, none⟩ = some u
theorem Own.form' {w : World} {B : Nat} {v : Value} {e : TypeId} {xs : List Value} (h : Own w B v e xs) (hn : 0 < xs.length) : ∃ g cap, v = .slice (some ⟨g, 0, none⟩) xs.length cap ∧ B ≤ g := by
  obtain ⟨g, cap, e, hB, _⟩ := h.form hn
  exact ⟨g, cap, e, hB⟩
theorem Lit.mid {w w1 : World} {B p : Nat} {v : Value} {xs : List Nat} (h : Lit w B p v xs) (hg : w.grownBy w1 none) : w1.cell? ⟨p, 0, none⟩ = some v ∧ w1.frozen? ⟨p, 0, none⟩ = false := by
  have hb := hg.block p h.lt (by simp)
  exact ⟨(World.cell?_of_block (a := ⟨p, 0, none⟩) hb).trans h.cell, (World.frozen?_of_block (a := ⟨p, 0, none⟩) hb).trans h.fr⟩
theorem Lit.appended {w w1 : World} {B p n : Nat} {v v' : Value} {xs : List Nat} (h : Lit w B p v xs) (hB : B ≤ w.heap.size) {u : Int} (b : Nat) (hu : u = (b : Int)) {o : Obj} (hl : n = xs.length)
    (ho : w1.ownsRow (w.alloc o).drew.heap.size 5 1 v' (n + 1) (byts xs ++ [.int .u8 u])) (hg : w.grownBy w1 none) :
    WrTo w (w1.setCell ⟨p, 0, none⟩ v') B p v (xs ++ [b]) := by
  subst hu; subst hl
  have hsz : w.heap.size ≤ (w.alloc o).drew.heap.size := (grown_alloc w o none).size
  have hb := hg.block p h.lt (by simp)
  have hc : w1.cell? ⟨p, 0, none⟩ = some v := (h.mid hg).1
  have hO : Own w1 (w.alloc o).drew.heap.size v' 5 (byts (xs ++ [b])) := by
    unfold Own
    have : (byts (xs ++ [b])).length = xs.length + 1 := by simp [byts_len]
    rw [this, byts_app]
    exact ho
  obtain ⟨G, cap, rfl, hG⟩ := hO.form' (by rw [byts_len]; simp)
  have hGp : G ≠ p := by have := h.lt; omega
  refine ⟨_, ⟨World.cell?_setCell_same _ _ _ hc, ?_, (hO.mono (by omega)).kept (grown_put 0 _) (.inr (by intro e; exact hGp (Option.some.inj e))), (by intro e; exact hGp (Option.some.inj e)), h.bp, by simp [World.setCell]; have := h.lt; have := hg.size; omega⟩, ?_, .inr ⟨G, rfl, by omega⟩, fun o hp => ?_, fun o => ?_⟩
  · rw [World.frozen?_setCell]; exact (h.mid hg).2
  · exact ((Chg.of_grown hg).weaken (C' := Cs p v) (fun b _ e => by cases e)).trans (Chg.of_grown (grown_put (w := w1) (g := p) 0 _)) (fun b _ e => .inl (by cases e; rfl))
  · rw [World.cell?_setCell_other _ _ _ _ (by intro e; simp only [Addr.mk.injEq] at e; omega)]
    exact World.cell?_of_block (a := ⟨p, o, none⟩) hb
  · rw [World.frozen?_setCell]; exact World.frozen?_of_block (a := ⟨p, o, none⟩) hb
theorem bigL_len (n : Nat) : ∀ k, (bigL n k).length = k
  | 0 => rfl
  | k + 1 => by simp [bigL, bigL_len n k]
theorem shr_run (P : Program) (k : IntKind) (n m : Nat) (w : World) (hm : m ≤ k.bits) : (Op.shift BinOp.shr k (n : Int) .i64 (m : Int)).run P w = .ok (.int k ((n / 2 ^ m : Nat) : Int)) w := by
  unfold Op.shift
  rw [if_neg (by omega)]
  simp only [Int.toNat_natCast, Nat.min_eq_left hm]
  have : Int.fdiv (n : Int) (2 ^ m) = ((n / 2 ^ m : Nat) : Int) := by
    rw [Int.fdiv_eq_ediv_of_nonneg _ (Int.le_of_lt (Int.pow_pos (by omega)))]
    simp
  rw [this]
  rfl
theorem wrap_div (n j : Nat) : IntKind.u8.wrap (↑n / 2 ^ (8 * (j : Int)).toNat) = ((n / 2 ^ (8 * j) % 256 : Nat) : Int) := by
  have e : (8 * (j : Int)).toNat = 8 * j := by omega
  rw [e]
  have : ((n : Int) / 2 ^ (8 * j)) = ((n / 2 ^ (8 * j) : Nat) : Int) := by simp
  rw [this]
  show ((n / 2 ^ (8 * j) : Nat) : Int) % 256 = _
  omega
def bigH (n many k : Nat) : List Nat := (bigL n many).take (many - k)
theorem bigH_succ {n many k : Nat} (h : k < many) : bigH n many k = bigH n many (k + 1) ++ [n / 2 ^ (8 * k) % 256] := by
  have hg : ∀ m k, k < m → (bigL n m)[m - (k + 1)]? = some (n / 2 ^ (8 * k) % 256) := by
    intro m
    induction m with
    | zero => intro k h; omega
    | succ m ih =>
      intro k h
      by_cases hk : k = m
      · subst hk; simp [bigL]
      · rw [bigL, show m + 1 - (k + 1) = (m - (k + 1)) + 1 by omega, List.getElem?_cons_succ]
        exact ih k (by omega)
  unfold bigH
  rw [show many - k = (many - (k + 1)) + 1 by omega, List.take_add_one, hg many k h]
  rfl
set_option maxRecDepth 100000 in
set_option maxHeartbeats 1000000 in
theorem big_calls {w : World} {B p : Nat} {v : Value} {xs : List Nat} (n : Nat) (many : Nat) (h : Wr w B p v xs ∨ (Lit w B p v xs ∧ 0 < many)) (hB : B ≤ w.heap.size) (hn : n < 4294967296) (hm : many ≤ 4) (hl : xs.length < 1000000000) :
    Calls Tryd.prog 24 #[.pointer (some ⟨p, 0, none⟩), .int .u32 (n : Int), .int .i64 (many : Int)] w fun e w' => e = .returned (.tuple #[]) ∧ WrTo w w' B p v (xs ++ bigL n many) := by
  obtain ⟨i5, hi5, hz5, hs5, hb5⟩ := info_parts Tryd.info5
  have I5 := Lib.hid (And.intro hi5 (And.intro hz5 (And.intro hs5 hb5)))
  have H0 := Lib.hid h
  have hlt : p < w.heap.size := h.elim (fun h => h.lt) (fun h => h.1.lt)
  clear hi5 hz5 hs5 hb5 h
  go_enter Tryd.func24, Tryd.ntmps24
  go_wp2
  go_loopw [6] (fun i wr => ∃ k : Nat, k ≤ many ∧ i = .int .i64 ((k : Int) - 1) ∧ (WrTo w wr B p v (xs ++ bigH n many k) ∨ (k = many ∧ wr = w ∧ Lit w B p v xs ∧ 0 < many))) (fun i _ => (intOf i + 1).toNat)
  case atStart =>
    exact ⟨many, Nat.le_refl _, rfl, H0.out.elim (fun h => .inl (by unfold bigH; simpa using WrTo.refl h)) (fun h => .inr ⟨rfl, rfl, h.1, h.2⟩)⟩
  case round =>
    obtain ⟨k, hk, rfl, hw⟩ := hrel
    match k, hk with
    | 0, _ =>
      have hz : bigH n many 0 = bigL n many := by unfold bigH; rw [Nat.sub_zero, List.take_of_length_le (by rw [bigL_len]; exact Nat.le_refl _)]
      rw [hz] at hw
      have hw := hw.elim id (fun h => absurd h.1 (by have := h.2.2.2; omega))
      have H := Lib.hid hw
      clear hw hz
      go_wp2
      go_end0
      exact ⟨rfl, H.out⟩
    | j + 1, hk =>
      rcases hw with hw | hw
      · obtain ⟨v1, h1, h2, h3, h4, h5⟩ := hw
        have hc := h1.cell
        have hf := h1.fr
        have hsz := h2.size
        have hpl := h1.lt
        have e0 : ((j + 1 : Nat) : Int) - 1 = (j : Int) := by omega
        rw [e0]
        have H := Lib.hid (And.intro h1 (And.intro h2 (And.intro h3 (And.intro h4 h5))))
        clear h1 h2 h3 h4 h5 e0
        go_wp2
        have hbl : (xs ++ bigH n many (j + 1)).length < 1000000010 := by
          rw [List.length_append]; unfold bigH; rw [List.length_take, bigL_len]; omega
        have hBB : B ≤ wr.heap.size := by omega
        have hw8 : IntKind.i64.wrap (8 * (j : Int)) = ((8 * j : Nat) : Int) := by rw [IntWalk.i64_in _ (by omega)]; omega
        have hsr := fun w => shr_run Tryd.prog .u32 n (8 * j) w (by show 8 * j ≤ 32; omega)
        have Hbox := Lib.hid (heap_alloc_new wr (.cells #[.int .u8 (IntKind.u8.wrap (↑n / 2 ^ (8 * (j : Int)).toNat))] 5))
        have Ho := Lib.hid H.out.1.own
        have hlen2 := byts_len (xs ++ bigH n many (j + 1))
        have HL := Lib.hid (And.intro hbl hlen2)
        clear hbl hlen2
        go_region_law
          ((refine step_append_lies _ (by rfl) _ _ _ (by rfl) B 5 i5 _ 1 1 Tryd.underlying52 I5.out.1 I5.out.2.1 I5.out.2.2.1 I5.out.2.2.2 rfl (by omega) v1 (byts (xs ++ bigH n many (j + 1))).length (byts (xs ++ bigH n many (j + 1))) (by rfl) ((World.ownsRow.alloc Ho.out _).drew) ⟨wr.heap.size, 0, none⟩ 1 1 [.int .u8 (IntKind.u8.wrap (↑n / 2 ^ (8 * (j : Int)).toNat))] (by rfl) (by rfl) (World.news_of_block (cs := #[.int .u8 (IntKind.u8.wrap (↑n / 2 ^ (8 * (j : Int)).toNat))]) (t := 5) (fr := (0, 0)) Hbox.out) (by simp [Value.oneCell']) (by omega) (by have := HL.out; unfold maxLen; omega) (by have := HL.out; omega) (by simp; omega) (wr.heap.size + 1) (by simp) ?_; intro gg cap w1 hown1 hgrow hat hlt1; obtain ⟨g5, g6⟩ := H.out.1.mid (grown_ad hgrow); have H9 := Lib.hid (And.intro hown1 (And.intro (grown_ad hgrow) hat)); clear hown1 hgrow hat))
        all_goals
          go_wp2
          refine ⟨⟨j, by omega, by go_num, .inl ?_⟩, by simp [intOf]⟩
          rw [show bigH n many j = bigH n many (j + 1) ++ [n / 2 ^ (8 * j) % 256] from bigH_succ (by omega), ← List.append_assoc]
          refine WrTo.trans hlt ⟨v1, H.out⟩ fun v2 h2 => ?_
          have e := h2.cell.symm.trans hc
          injection e with e
          subst e
          exact h2.appended _ (wrap_div n j) rfl H9.out.1 H9.out.2.1 (H9.out.2.2.imp id (fun e => by omega))
      · obtain ⟨hjm, hww, hlit, _⟩ := hw
        subst hww
        have hc := hlit.cell
        have hf := hlit.fr
        have hpl := hlit.lt
        have e0 : ((j + 1 : Nat) : Int) - 1 = (j : Int) := by omega
        rw [e0]
        obtain ⟨g, rfl, hrow⟩ := hlit.row
        have hw8 : IntKind.i64.wrap (8 * (j : Int)) = ((8 * j : Nat) : Int) := by rw [IntWalk.i64_in _ (by omega)]; omega
        have hsr := fun w => shr_run Tryd.prog .u32 n (8 * j) w (by show 8 * j ≤ 32; omega)
        have Hbox := Lib.hid (heap_alloc_new wr (.cells #[.int .u8 (IntKind.u8.wrap (↑n / 2 ^ (8 * (j : Int)).toNat))] 5))
        obtain ⟨N, hN⟩ : ∃ N, xs.length = N := ⟨_, rfl⟩
        rw [hN] at hc hl
        have H := Lib.hid (And.intro hlit (And.intro hrow (And.intro hN hjm)))
        clear hlit hrow hN hjm e0
        go_wp2
        go_region_law
          ((refine step_append_grows (by rfl) _ _ _ (by rfl) 5 i5 _ 1 1 Tryd.underlying52 I5.out.1 I5.out.2.1 I5.out.2.2.1 I5.out.2.2.2 rfl (by omega) (some ⟨g, 0, none⟩) N N (byts xs) (by rfl) (by intro h; cases h) (by rw [byts_len]; have := H.out.2.2.1; omega) (by intro b hb; cases hb; intro k u hu; rw [add_zero_addr]; exact (World.cell?_of_block (w := wr) (a := ⟨g, 0 + k, none⟩) (heap_alloc_old wr _ (block_lt_of_cell (H.out.2.1 k u hu)))).trans (H.out.2.1 k u hu)) ⟨wr.heap.size, 0, none⟩ 1 1 [.int .u8 (IntKind.u8.wrap (↑n / 2 ^ (8 * (j : Int)).toNat))] (by rfl) (by rfl) (World.news_of_block (cs := #[.int .u8 (IntKind.u8.wrap (↑n / 2 ^ (8 * (j : Int)).toNat))]) (t := 5) (fr := (0, 0)) Hbox.out) (by simp [Value.oneCell']) (by omega) (by unfold maxLen; omega) (by omega) ?_; intro v9 w1 hown1 hgrow; obtain ⟨G9, cap9, rfl, _, _⟩ := hown1.form (by omega); obtain ⟨g5, g6⟩ := H.out.1.mid (grown_ad hgrow); have H9 := Lib.hid (And.intro hown1 (grown_ad hgrow)); clear hown1 hgrow))
        all_goals
          go_wp2
          refine ⟨⟨j, by omega, by go_num, .inl ?_⟩, by simp [intOf]⟩
          rw [show bigH n many j = bigH n many (j + 1) ++ [n / 2 ^ (8 * j) % 256] from bigH_succ (by omega), H.out.2.2.2]
          rw [show bigH n many many = [] from by unfold bigH; simp, List.nil_append]
          exact H.out.1.appended hB _ (wrap_div n j) H.out.2.2.1.symm H9.out.1 H9.out.2
end Go.Proofs.YtjjjnpolhbbepaaDoor
