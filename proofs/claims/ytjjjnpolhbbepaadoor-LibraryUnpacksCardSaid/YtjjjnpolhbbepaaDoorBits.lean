/- The writer's bits. -/
import Derived.Test.YtjjjnpolhbbepaaDoorBig
import Derived.Test.YtjjjnpolhbbepaaDoorPlainBack
import Derived.StillTailTactics
import Derived.Laws.BitsAllLaws
set_option linter.unusedSimpArgs false
set_option linter.unusedVariables false
namespace Go.Proofs.YtjjjnpolhbbepaaDoor
open Go.RowKit
open Plain
structure Wt (w : World) (B p : Nat) (v : Value) (base bits : List Nat) : Prop where
  wr : Wr w B p v (base ++ chunk bits)
  used : w.cell? ⟨p, 1, none⟩ = some (.int .i64 ((bits.length % 8 : Nat) : Int))
  fr1 : w.frozen? ⟨p, 1, none⟩ = false
  lt : ∀ b ∈ bits, b < 2
def WtTo (w w' : World) (B p : Nat) (v : Value) (base bits : List Nat) : Prop :=
  ∃ v', Wt w' B p v' base bits ∧ Chg (Cs p v) w w' ∧ (v'.ownBlock = v.ownBlock ∨ ∃ g, v'.ownBlock = some g ∧ w.heap.size ≤ g)
section
variable {w w' w1 w2 : World} {B p : Nat} {v v' : Value} {base bits bits' : List Nat}
theorem WtTo.refl (h : Wt w B p v base bits) : WtTo w w B p v base bits := ⟨v, h, .refl _ _, .inl rfl⟩
theorem WtTo.trans (hlt : p < w.heap.size) (h : WtTo w w1 B p v base bits) (k : ∀ v1, Wt w1 B p v1 base bits → WtTo w1 w2 B p v1 base bits') : WtTo w w2 B p v base bits' := by
  obtain ⟨v1, h1, h2, h3⟩ := h
  obtain ⟨v2, k1, k2, k3⟩ := k v1 h1
  have hs := h2.size
  refine ⟨v2, k1, h2.trans k2 (fun b hb hc => ?_), ?_⟩
  · rcases hc with rfl | hc
    · exact .inl rfl
    · rcases h3 with e | ⟨g, e, hg⟩
      · exact .inr (e ▸ hc)
      · rw [e] at hc; cases hc; omega
  · rcases k3 with e | ⟨g, e, hg⟩
    · rcases h3 with e' | ⟨g', e', hg'⟩
      · exact .inl (e.trans e')
      · exact .inr ⟨g', e.trans e', hg'⟩
    · exact .inr ⟨g, e, by omega⟩
end
theorem WrTo.next {w w1 w2 : World} {B p : Nat} {v : Value} {ys base bits : List Nat} (hlt : p < w.heap.size) (h : WrTo w w1 B p v ys) (k : ∀ v1, Wr w1 B p v1 ys → WtTo w1 w2 B p v1 base bits) : WtTo w w2 B p v base bits := by
  obtain ⟨v1, h1, h2, h3, _⟩ := h
  obtain ⟨v2, k1, k2, k3⟩ := k v1 h1
  have hs := h2.size
  refine ⟨v2, k1, h2.trans k2 (fun b hb hc => ?_), ?_⟩
  · rcases hc with rfl | hc
    · exact .inl rfl
    · rcases h3 with e | ⟨g, e, hg⟩
      · exact .inr (e ▸ hc)
      · rw [e] at hc; cases hc; omega
  · rcases k3 with e | ⟨g, e, hg⟩
    · rcases h3 with e' | ⟨g', e', hg'⟩
      · exact .inl (e.trans e')
      · exact .inr ⟨g', e.trans e', hg'⟩
    · exact .inr ⟨g, e, by omega⟩
theorem and1_val (m : Nat) (hm : m < 9223372036854775808) : Go.bits .and .i64 (m : Int) 1 = ((m % 2 : Nat) : Int) := by
  have h1 : (BitVec.ofInt 64 1).toNat = 2 ^ 1 - 1 := by decide
  have key : (BitVec.ofInt 64 (m : Int) &&& BitVec.ofInt 64 1).toNat = m % 2 := by
    rw [BitVec.toNat_and, h1, Nat.and_two_pow_sub_one_eq_mod, BitVec.ofInt_natCast, BitVec.toNat_ofNat]
    omega
  show IntKind.i64.wrap ((BitVec.ofInt 64 (m : Int) &&& BitVec.ofInt 64 1).toNat : Nat) = _
  rw [key, IntKind.wrap_i64]
  omega
theorem or_val {n j r c : Nat} (hn : n < 1000000) (hr : r < 8) (hc : c < 256) :
    Go.bits .or .u8 (c : Int) (Go.bits .and .i64 ((n : Int) / 2 ^ j) 1 % 256 * 2 ^ (7 - r) % 256) = ((c ||| (n / 2 ^ j % 2) * 2 ^ (7 - r) : Nat) : Int) := by
  have e1 : ((n : Int) / 2 ^ j) = ((n / 2 ^ j : Nat) : Int) := by simp
  have hle : n / 2 ^ j ≤ n := Nat.div_le_self _ _
  rw [e1, and1_val _ (by omega)]
  have hp : 2 ^ (7 - r) ≤ 2 ^ 7 := Nat.pow_le_pow_right (by omega) (by omega)
  have hx : (n / 2 ^ j % 2) * 2 ^ (7 - r) < 256 := by
    have : (n / 2 ^ j % 2) * 2 ^ (7 - r) ≤ 1 * 2 ^ 7 := Nat.mul_le_mul (by omega) hp
    omega
  have e2 : (((n / 2 ^ j % 2 : Nat) : Int) % 256 * 2 ^ (7 - r) % 256) = (((n / 2 ^ j % 2) * 2 ^ (7 - r) : Nat) : Int) := by
    have h3 : ((n / 2 ^ j % 2 : Nat) : Int) % 256 = ((n / 2 ^ j % 2 : Nat) : Int) := by omega
    rw [h3]
    have h4 : ((n / 2 ^ j % 2 : Nat) : Int) * 2 ^ (7 - r) = (((n / 2 ^ j % 2) * 2 ^ (7 - r) : Nat) : Int) := by simp
    rw [h4]
    omega
  rw [e2]
  exact u8_or_nat c _ hc hx
theorem set_last {base cur : List Nat} {N r b c : Nat} (hr : cur.length % 8 = r) (h0 : 0 < r) (hb : b < 2) (hN : base.length + (chunk cur).length = N + 1) (hc : (base ++ chunk cur)[N]?.getD 0 = c) :
    (base ++ chunk cur).set N (c ||| b * 2 ^ (7 - r)) = base ++ chunk (cur ++ [b]) := by
  obtain ⟨h1, h2⟩ := chunk_add (l := cur) (b := b) (r := r) (q := cur.length / 8) (by omega) h0 (by omega)
  rw [h1] at hN hc ⊢
  rw [h2]
  generalize (List.range (cur.length / 8)).map (fun k => val cur k 8) = P at *
  rw [← List.append_assoc] at hc ⊢
  have hl : (base ++ P).length = N := by simp at hN ⊢; omega
  rw [List.getElem?_append_right (by omega), hl, Nat.sub_self] at hc
  simp only [List.getElem?_cons_zero, Option.getD_some] at hc
  rw [List.set_append_right _ _ (by omega), hl, Nat.sub_self, ← hc, or_add (by omega) hb]
  simp
theorem set_new {base cur : List Nat} {N b : Nat} (hr : cur.length % 8 = 0) (hN : (base ++ chunk cur).length = N) :
    (base ++ chunk cur ++ [0]).set N (0 ||| b * 2 ^ (7 - 0)) = base ++ chunk (cur ++ [b]) := by
  rw [chunk_new hr, List.set_append_right _ _ (by omega), hN, Nat.sub_self]
  simp
theorem Wr.put {w : World} {B p g n cap N x : Nat} {xs base bits : List Nat} {u k : Int} (h : Wr w B p (.slice (some ⟨g, 0, none⟩) n cap) xs) (hu : u = (x : Int)) (hx : xs.set N x = base ++ chunk bits)
    (h1 : ∃ y, w.cell? ⟨p, 1, none⟩ = some y) (hf1 : w.frozen? ⟨p, 1, none⟩ = false) (hk : k = ((bits.length % 8 : Nat) : Int)) (hb : ∀ b ∈ bits, b < 2) :
    WtTo w (((w.setCell ⟨g, N, none⟩ (.int .u8 u)).setCell ⟨p, 1, none⟩ (.int .i64 k)).drew) B p (.slice (some ⟨g, 0, none⟩) n cap) base bits := by
  subst hu; subst hk
  have hgp : g ≠ p := fun e => h.ne (by rw [e]; rfl)
  obtain ⟨y, hy⟩ := h1
  have hput := h.own.put N (.int .u8 (x : Int))
  have hset : (byts xs).set N (.int .u8 (x : Int)) = byts (xs.set N x) := by simp [byts, List.map_set]
  rw [hset] at hput
  have c1 : ∀ o, (w.setCell ⟨g, N, none⟩ (.int .u8 (x : Int))).cell? ⟨p, o, none⟩ = w.cell? ⟨p, o, none⟩ := fun o =>
    World.cell?_setCell_other w _ _ _ (by intro e; simp only [Addr.mk.injEq] at e; exact hgp e.1)
  refine ⟨_, ⟨⟨?_, ?_, ?_, h.ne, h.bp, ?_⟩, ?_, ?_, hb⟩, ?_, .inl rfl⟩
  · refine Eq.trans (World.cell?_setCell_other _ _ _ _ (by intro e; simp at e)) ?_
    rw [c1]
    exact h.cell
  · refine (World.frozen?_setCell _ _ _ _).trans ?_
    exact (World.frozen?_setCell _ _ _ _).trans h.fr
  · rw [← hx]
    exact Own.drew (Own.kept hput (grown_put 1 _) (.inr (by intro e; exact h.ne e)))
  · simp [World.setCell]; exact h.lt
  · exact World.cell?_setCell_same _ _ _ ((c1 1).trans hy)
  · refine (World.frozen?_setCell _ _ _ _).trans ?_
    exact (World.frozen?_setCell _ _ _ _).trans hf1
  · have k1 : Chg (Cs p (.slice (some ⟨g, 0, none⟩) n cap)) w (w.setCell ⟨g, N, none⟩ (.int .u8 (x : Int))) :=
      ⟨rfl, rfl, rfl, by simp [World.setCell], fun b hb hn => Below.heap_setCell _ _ _ _ (fun e => hn (.inr (by rw [e]; rfl)))⟩
    exact (k1.trans (Chg.of_grown (grown_put (w := w.setCell ⟨g, N, none⟩ (.int .u8 (x : Int))) (g := p) 1 (.int .i64 ((bits.length % 8 : Nat) : Int)))) (fun b _ e => .inl (by cases e; rfl))).drewN 1
def bitsH (n w k : Nat) : List Nat := (bitsN n w).take (w - k)
theorem bitsH_succ {n w k : Nat} (h : k < w) : bitsH n w k = bitsH n w (k + 1) ++ [n / 2 ^ k % 2] := by
  unfold bitsH
  rw [show w - k = (w - (k + 1)) + 1 by omega, List.take_add_one, bitsN_get n w _ (by omega), show w - 1 - (w - (k + 1)) = k by omega]
  rfl
/-- What is known behind the append of a new byte. -/
theorem mid_facts {w w1 : World} {B p G N cap : Nat} {v : Value} {base bits : List Nat} (h : Wt w B p v base bits) (hg : w.grownBy w1 v.ownBlock) (ho : Own w1 B (.slice (some ⟨G, 0, none⟩) (N + 1) cap) 5 (byts (base ++ chunk bits) ++ [.int .u8 0]))
    (hn : v.ownBlock = some G ∨ w.heap.size ≤ G) (hN : (byts (base ++ chunk bits)).length = N) :
    w1.cell? ⟨p, 1, none⟩ = w.cell? ⟨p, 1, none⟩ ∧ w1.frozen? ⟨p, 1, none⟩ = w.frozen? ⟨p, 1, none⟩ ∧ w1.cell? ⟨G, N, none⟩ = some (.int .u8 0) ∧ w1.frozen? ⟨G, N, none⟩ = false ∧ G ≠ p := by
  have hb := hg.block p h.wr.lt (fun e => h.wr.ne e.symm)
  refine ⟨World.cell?_of_block (a := ⟨p, 1, none⟩) hb, World.frozen?_of_block (a := ⟨p, 1, none⟩) hb, ?_, ho.frozen N, ?_⟩
  · rw [ho.cell N (by simp; omega), List.getElem?_append_right (by omega), hN, Nat.sub_self]; rfl
  · rintro rfl
    rcases hn with e | e
    · exact h.wr.ne e
    · have := h.wr.lt; omega
set_option maxRecDepth 100000 in
set_option maxHeartbeats 1000000 in
theorem bits_calls {w : World} {B p : Nat} {v : Value} {base bits : List Nat} (n : Nat) (width : Nat) (h : Wt w B p v base bits) (hB : B ≤ w.heap.size) (hn : n < 1000000) (hm : width ≤ 20) (hl : base.length + bits.length < 1000000000) :
    Calls Tryd.prog 25 #[.pointer (some ⟨p, 0, none⟩), .int .i64 (n : Int), .int .i64 (width : Int)] w fun e w' => e = .returned (.tuple #[]) ∧ WtTo w w' B p v base (bits ++ bitsN n width) := by
  obtain ⟨i5, hi5, hz5, hs5, hb5⟩ := info_parts Tryd.info5
  have I5 := Lib.hid (And.intro hi5 (And.intro hz5 (And.intro hs5 hb5)))
  have H0 := Lib.hid h
  have hlt := h.wr.lt
  clear hi5 hz5 hs5 hb5 h
  go_enter Tryd.func25, Tryd.ntmps25
  go_wp2
  go_loopw [6] (fun i wr => ∃ k : Nat, k ≤ width ∧ i = .int .i64 ((k : Int) - 1) ∧ WtTo w wr B p v base (bits ++ bitsH n width k)) (fun i _ => (intOf i + 1).toNat)
  case atStart =>
    exact ⟨width, Nat.le_refl _, rfl, by unfold bitsH; simpa using WtTo.refl H0.out⟩
  case round =>
    obtain ⟨k, hk, rfl, hw⟩ := hrel
    match k, hk with
    | 0, _ =>
      have hz : bitsH n width 0 = bitsN n width := by unfold bitsH; rw [Nat.sub_zero, List.take_of_length_le (by rw [bitsN_len]; exact Nat.le_refl _)]
      rw [hz] at hw
      have H := Lib.hid hw
      clear hw hz
      go_wp2
      go_end0
      exact ⟨rfl, H.out⟩
    | j + 1, hk =>
      obtain ⟨v1, h1, h2, h3⟩ := hw
      have hc := h1.wr.cell
      have hf := h1.wr.fr
      have hc1 := h1.used
      have hf1 := h1.fr1
      have hsz := h2.size
      have hpl := h1.wr.lt
      have e0 : ((j + 1 : Nat) : Int) - 1 = (j : Int) := by omega
      rw [e0]
      have hsplit := bitsH_succ (n := n) (w := width) (k := j) (by omega)
      have hbl : (bits ++ bitsH n width (j + 1)).length < 1000000000 + 20 := by
        rw [List.length_append]; unfold bitsH; rw [List.length_take, bitsN_len]; omega
      generalize hcur : bits ++ bitsH n width (j + 1) = cur at h1 hc1 hbl
      have H := Lib.hid (And.intro h1 (And.intro h2 (And.intro h3 (And.intro hcur hsplit))))
      have hch : ∀ x ∈ chunk cur, x < 256 := fun x hx => by
        obtain ⟨k, _, rfl⟩ := List.mem_map.1 hx
        exact val_lt h1.lt 8
      have Hch := Lib.hid hch
      clear h1 h2 h3 e0 hcur hsplit hch
      by_cases hr : cur.length % 8 = 0
      · rw [hr] at hc1
        have Hr := Lib.hid hr
        clear hr
        have hlen : (byts (base ++ chunk cur)).length = base.length + (chunk cur).length := by simp [byts_len]
        have hck := chunk_len cur
        obtain ⟨N, hN⟩ : ∃ N, base.length + (chunk cur).length = N := ⟨_, rfl⟩
        have hN9 : N < 3000000000 := by omega
        rw [hN] at hlen
        have HN := Lib.hid (And.intro hN hlen)
        have hBB : B ≤ wr.heap.size := by omega
        clear hN hlen hck
        have hn1 : IntKind.i64.wrap (N : Int) = (N : Int) := IntWalk.i64_in _ (by omega)
        have hw7 : IntKind.i64.wrap 7 = 7 := IntWalk.i64_in _ (by omega)
        have hN2 : (N : Int) < (N : Int) + 1 := by omega
        go_wp2_with (at_builtin; refine app1f rfl (.tmp 22) (.tmp 23) 52 5 rfl i5 (.int .u8 0) 1 Tryd.underlying52 I5.out.1 I5.out.2.1 I5.out.2.2.1 I5.out.2.2.2 rfl (by omega) B (.int .u8 0) v1 (byts (base ++ chunk cur)) N rfl H.out.1.wr.own rfl rfl HN.out.2 (by omega) hBB ?_; intro G cap w1 g2 g3 g4 _ _; obtain ⟨g5, g6⟩ := H.out.1.wr.mid g3; obtain ⟨m1, m2, m3, m4, m5⟩ := mid_facts H.out.1 g3 g2 g4 HN.out.2; have H9 := Lib.hid (And.intro g2 (And.intro g3 g4)); clear g2 g3 g4; have m6 : p ≠ G := fun e => m5 e.symm; replace m1 := m1.trans hc1; replace m2 := m2.trans hf1)
        obtain ⟨S, hS⟩ : ∃ S, S = Value.slice (some ⟨G, 0, none⟩) (N + 1) cap := ⟨_, rfl⟩
        have f0 : (w1.setCell ⟨p, 0, none⟩ (.slice (some ⟨G, 0, none⟩) (N + 1) cap)).cell? ⟨p, 0, none⟩ = some (.slice (some ⟨G, 0, none⟩) (N + 1) cap) := World.cell?_setCell_same _ _ _ g5
        have f1 : (w1.setCell ⟨p, 0, none⟩ (.slice (some ⟨G, 0, none⟩) (N + 1) cap)).cell? ⟨p, 1, none⟩ = some (.int .i64 ((0 : Nat) : Int)) := (World.cell?_setCell_other _ _ _ _ (by intro e; simp at e)).trans m1
        have f2 : (w1.setCell ⟨p, 0, none⟩ (.slice (some ⟨G, 0, none⟩) (N + 1) cap)).cell? ⟨G, N, none⟩ = some (.int .u8 0) := (World.cell?_setCell_other _ _ _ _ (by intro e; simp only [Addr.mk.injEq] at e; exact m6 e.1)).trans m3
        have f3 : (w1.setCell ⟨p, 0, none⟩ (.slice (some ⟨G, 0, none⟩) (N + 1) cap)).frozen? ⟨G, N, none⟩ = false := (World.frozen?_setCell _ _ _ _).trans m4
        have f4 : (w1.setCell ⟨p, 0, none⟩ (.slice (some ⟨G, 0, none⟩) (N + 1) cap)).frozen? ⟨p, 1, none⟩ = false := (World.frozen?_setCell _ _ _ _).trans m2
        have hto : WrTo wr (w1.setCell ⟨p, 0, none⟩ (.slice (some ⟨G, 0, none⟩) (N + 1) cap)) B p v1 (base ++ chunk cur ++ [0]) :=
          Wr.appended (g := G) (cap := cap) (n := N) H.out.1.wr 0 rfl HN.out.2.symm (by have := H9.out.1; unfold Own at this; simpa [HN.out.2] using this) H9.out.2.1 H9.out.2.2
        have HT := Lib.hid hto
        clear hto g5 g6 m1 m2 m3 m4 hS
        generalize w1.setCell ⟨p, 0, none⟩ (.slice (some ⟨G, 0, none⟩) (N + 1) cap) = w2 at *
        go_still_tail 25, (by kernel_rfl)
        go_wp2
        refine ⟨⟨j, by omega, by go_num, ?_⟩, by simp [intOf]⟩
        rw [show bitsH n width j = bitsH n width (j + 1) ++ [n / 2 ^ j % 2] from H.out.2.2.2.2, ← List.append_assoc, H.out.2.2.2.1]
        refine WtTo.trans hlt ⟨_, H.out.1, H.out.2.1, H.out.2.2.1⟩ fun v2 h2 => ?_
        have e := h2.wr.cell.symm.trans hc
        injection e with e
        subst e
        have hlb : ∀ b ∈ cur ++ [n / 2 ^ j % 2], b < 2 := by
          intro b hb
          rcases List.mem_append.1 hb with hb | hb
          · exact H.out.1.lt b hb
          · simp at hb; omega
        refine WrTo.next hpl HT.out fun v3 h3 => ?_
        have e := h3.cell.symm.trans f0
        injection e with e
        subst e
        refine Wr.put h3 (x := 0 ||| (n / 2 ^ j % 2) * 2 ^ (7 - 0)) (or_val (r := 0) (c := 0) hn (by omega) (by omega)) (set_new Hr.out (by rw [List.length_append]; exact HN.out.1)) ⟨_, f1⟩ f4 ?_ hlb
        have := Hr.out
        rw [List.length_append, List.length_singleton]
        omega
      · obtain ⟨r, hre⟩ : ∃ r, cur.length % 8 = r := ⟨_, rfl⟩
        rw [hre] at hc1 hr
        have hr0 : ((r : Int) == 0) = false := by simp; omega
        have hr8 : r < 8 := by omega
        have Hre := Lib.hid hre
        clear hre
        -- the last byte
        have hown := H.out.1.wr.own
        have hlen : (byts (base ++ chunk cur)).length = base.length + (chunk cur).length := by simp [byts_len]
        have hck := chunk_len cur
        have hck2 : 0 < (chunk cur).length := by have := Hre.out; omega
        obtain ⟨g, cap, rfl, hBg, hgl, _, _⟩ := hown.form (by omega)
        rw [hlen] at hc hown
        obtain ⟨N, hN⟩ : ∃ N, base.length + (chunk cur).length = N + 1 := ⟨base.length + (chunk cur).length - 1, by omega⟩
        rw [hN] at hc hown
        obtain ⟨c, hcl⟩ : ∃ c, (base ++ chunk cur)[N]?.getD 0 = c := ⟨_, rfl⟩
        have hc256 : (base ++ chunk cur)[N]?.getD 0 < 256 := by
          rw [List.getElem?_append_right (by omega), List.getElem?_eq_getElem (by omega)]
          exact Hch.out _ (List.getElem_mem _)
        have HC := Lib.hid hc256
        clear hc256
        have hcN : wr.cell? ⟨g, N, none⟩ = some (.int .u8 (c : Int)) := by
          rw [hown.cell N (by omega)]
          unfold byts
          rw [List.getElem?_map, ← hcl, List.getElem?_eq_getElem (by rw [List.length_append]; omega)]
          rfl
        have hgp : g ≠ p := fun e => H.out.1.wr.ne (by rw [e]; rfl)
        have hpg : p ≠ g := fun e => hgp e.symm
        have hfN : wr.frozen? ⟨g, N, none⟩ = false := hown.frozen N
        have hn1 : IntKind.i64.wrap (N : Int) = (N : Int) := IntWalk.i64_in _ (by omega)
        have hw7 : IntKind.i64.wrap (7 - (r : Int)) = 7 - (r : Int) := IntWalk.i64_in _ (by omega)
        have hN2 : (N : Int) < (N : Int) + 1 := by omega
        have h7 : (0 : Int) ≤ 7 - (r : Int) := by omega
        have HN := Lib.hid (And.intro hown (And.intro hcl (And.intro hN hck)))
        clear hown hcl hN hlen hck
        go_wp2
        go_still_tail 25, (by kernel_rfl)
        go_wp2
        refine ⟨⟨j, by omega, by go_num, ?_⟩, by simp [intOf]⟩
        rw [show bitsH n width j = bitsH n width (j + 1) ++ [n / 2 ^ j % 2] from H.out.2.2.2.2, ← List.append_assoc, H.out.2.2.2.1]
        refine WtTo.trans hlt ⟨_, H.out.1, H.out.2.1, H.out.2.2.1⟩ fun v2 h2 => ?_
        have e := h2.wr.cell.symm.trans hc
        injection e with e
        subst e
        have hlb : ∀ b ∈ cur ++ [n / 2 ^ j % 2], b < 2 := by
          intro b hb
          rcases List.mem_append.1 hb with hb | hb
          · exact H.out.1.lt b hb
          · simp at hb; omega
        have hc256 : c < 256 := by
          have := HN.out.2.1
          subst this
          exact HC.out
        refine Wr.put h2.wr (x := c ||| (n / 2 ^ j % 2) * 2 ^ (7 - r)) (or_val hn hr8 hc256) (set_last Hre.out (by omega) (by omega) HN.out.2.2.1 HN.out.2.1) ⟨_, hc1⟩ hf1 ?_ hlb
        have := Hre.out
        rw [List.length_append, List.length_singleton]
        omega
end Go.Proofs.YtjjjnpolhbbepaaDoor
