/- The law's first: the first permutation that moves a graph to another one, and how many do. -/
import Derived.Test.YtjjjohmppehejaaGreatPlainAut
import Derived.Test.YtjjjohmppehejaaGreatMapP
import Derived.Test.YtjjjohmppehejaaGreatFormP
import Derived.Test.YtjjjohmppehejaaGreatSameG
import Derived.Test.YtjjjohmppehejaaGreatMovW
import Derived.Deep.AppendSrc
set_option linter.unusedSimpArgs false
set_option linter.unusedVariables false
namespace Go.Proofs.YtjjjohmppehejaaGreat
open Plain PlainG PlainX PlainT
theorem ck_vg {n : Nat} {g : Gr} (h : Vg n g) (hn : n ≤ 10) : ckA [g] = 0 := by
  rw [ckA_one, if_neg (by rw [h.chk]; simp), if_neg (by rw [h.num]; omega)]
theorem ck_vg2 {n : Nat} {g h : Gr} (hg : Vg n g) (hh : Vg n h) (hn : n ≤ 10) : ckA [g, h] = 0 := by
  have e1 : chkL [g, h] = 0 := by simp [chkL, hg.chk, hh.chk]
  have e2 : bigL [g, h] = false := by simp [bigL, hg.num, hh.num]; omega
  unfold ckA
  rw [if_neg (by rw [e1]; simp), e2]; rfl
theorem form_vgG {n : Nat} {g : Gr} (h : Vg n g) (hn : n ≤ 10) : formG g = (formT n g, 0) := by
  unfold formG
  rw [if_neg (by rw [ck_vg h hn]; simp), h.num, Int.toNat_natCast]
theorem map_vg {n : Nat} {g h : Gr} (hg : Vg n g) (hh : Vg n h) (hn : n ≤ 5) : mapA g h = optN (firstP n g h) := by
  unfold mapA
  rw [if_neg (by rw [ck_vg2 hg hh (by omega)]; simp)]
  by_cases he : g.n = h.n ∧ g.es.length = h.es.length
  · rw [if_pos he, hg.num, Int.toNat_natCast, first_ext hn]
  · rw [if_neg he]
    cases hf : firstP n g h with
    | none => rfl
    | some q =>
      exfalso
      have hm := List.mem_of_find?_eq_some hf
      have hp := List.find?_some hf
      have hi := (iso_iff ((seq_mem hn).1 hm)).1 hp
      exact he ⟨by rw [hg.num, hh.num], iso_edges hg hh hi⟩
theorem same_form {n : Nat} {g h : Gr} (hg : Vg n g) (hh : Vg n h) (hn : n ≤ 5) : sameG (formT n g) (formT n h) = decide (0 < manyP n g h) := by
  rw [Bool.eq_iff_iff, sameG_iff, decide_eq_true_iff]
  exact form_many hn hg hh
theorem first_many {n : Nat} {g h : Gr} : firstP n g h = none ↔ manyP n g h = 0 := by
  have := many_first (n := n) (g := g) (h := h)
  cases hf : firstP n g h with
  | none => rw [hf] at this; simp at this; simp [this]
  | some q => rw [hf] at this; simp at this; simp; omega
theorem grp_vg {n : Nat} {g : Gr} (h : Vg n g) (hn : n ≤ 10) : grpA g = (⟨n, orbsA (adj g.es) g.cs n n, repsA (adj g.es) g.cs n n⟩, 0) := by
  unfold grpA
  rw [if_neg (by rw [ck_vg h hn]; simp), h.num, Int.toNat_natCast]
theorem prod_orbs (A : Adj) (c : List Int) (n : Nat) : ∀ k, prodN (orbsA A c n k) = prodF A c n k
  | 0 => rfl
  | k + 1 => by
    unfold orbsA
    rw [List.range_succ, List.map_append]
    have := prod_orbs A c n k
    unfold orbsA at this
    show prodN (_ ++ [_]) = _
    rw [prodN_snoc, this, prodF, nts_len]
theorem many_vg {n : Nat} {g : Gr} (h : Vg n g) (hn : n ≤ 5) : manyA g = ((manyP n g g : Int), 0) := by
  unfold manyA
  rw [if_neg (by rw [ck_vg h (by omega)]; simp), h.num, Int.toNat_natCast, prod_orbs, many_prod hn h]
end Go.Proofs.YtjjjohmppehejaaGreat
set_option linter.unusedSimpArgs false
set_option linter.unusedVariables false
namespace Go.Proofs.YtjjjohmppehejaaGreat
open Go.RowKit Plain PlainG PlainX PlainT
theorem nts_ntz (p : List Nat) : nts p = ntz p := rfl
/-- append of nothing: nil. -/
theorem appNil {P : Program} {w : World} {ops : Array Oper} {rest : List Oper} {o : Oper} {a : Act} {Q : Exit → Act → World → Prop} (hgd : o.guard = none) (s x : Operand) (T e : TypeId)
    (ho : o.op = .call { callee := .builtin .append, args := #[s, x], argTypes := #[T, T] })
    (i : TypeInfo) (ht : P.underlying T = some (.slice e)) (hi : P.info? e = some i) (base : Option Addr) (n c : Nat) (hle : n ≤ c)
    (hs : a.eval s = .slice base n c) (c2 : Nat) (hx : a.eval x = .slice none 0 c2)
    (h : wpList P ops Q rest (a.put o.dst (.slice base n c)) w) :
    wpList P ops Q (o :: rest) a w := by
  refine wpList_plain hgd fun K hK => ?_
  have hr : (Builtin.append_ #[T, T] o.type #[.slice base n c, .slice none 0 c2]).run P w = .ok (.slice base n c) w := by
    have hsr := Src.ofNil (P := P) (w := w) (size := i.size) ht c2
    cases base <;> simp [Builtin.append_, run_underlying ht, sizeOf, typeInfo, hi, hsr.len, hle, hsr.cells, storeCells]
  unfold Oper.wp execOp
  simp only [ho, resolve, invoke, builtin, Sem.run_bind, Sem.run_pure, Result.andThen_ok, List.map_toArray, List.map_cons, List.map_nil, hs, hx, hr]
  exact hK _ _ h
/-- A slice of the call's own: nil, or at a block's start. -/
theorem Own.any3 {w : World} {B : Nat} {v : Value} {T : TypeId} {xs : List Value} (h : Own w B v T xs) (hl : xs.length ≤ maxLen) : ∃ a c, v = .slice a xs.length c := by
  obtain ⟨a, c, e, _⟩ := h.row hl
  exact ⟨a, c, e⟩
set_option maxRecDepth 100000 in
set_option maxHeartbeats 1000000 in
theorem next_nil {a : Option Addr} {c : Nat} {w : World} : Calls Tryz.prog 24 #[.slice a 0 c] w fun e w' => e = .returned (.bool false) ∧ ∃ q, w' = w.drewN q := by
  go_enter Tryz.func24, Tryz.ntmps24
  go_wp2
  go_loopw [3] (fun i wr => i = .int .i64 (-2) ∧ wr = w) (fun i _ => 0)
  case atStart => exact ⟨by go_num, rfl⟩
  case round =>
    obtain ⟨rfl, rfl⟩ := hrel
    go_wp2
    go_quiet (fail)
    go_wp2
    go_ret
    exact ⟨rfl, _, rfl⟩
theorem next_none {n : Nat} {p : List Nat} (h : p.length = 0) : nextF p = none := by
  obtain rfl := List.eq_nil_of_length_eq_zero h
  rfl
theorem next_any {B n : Nat} {p : List Nat} {v : Value} {w : World} (hp : isPermB n p = true) (hn : n ≤ 1000) (ho : Own w B v 3 (ints (nts p))) :
    Calls Tryz.prog 24 #[v] w fun e w' => NextRes B w v (nextF p) e w' := by
  have hl := (isPermB_iff.1 hp).1
  by_cases h0 : 0 < n
  · obtain ⟨g, c, rfl, _⟩ := ho.form (by rw [ints_len, nts_len]; omega)
    have he : (ints (nts p)).length = n := by rw [ints_len, nts_len, hl]
    rw [he] at ho ⊢
    exact next_calls hp hn ho
  · obtain ⟨a, c, rfl⟩ := ho.any3 (by rw [ints_len, nts_len]; unfold maxLen; omega)
    have he : (ints (nts p)).length = 0 := by rw [ints_len, nts_len]; omega
    rw [he, next_none (n := n) (by omega)]
    exact next_nil
theorem hit21 {n : Nat} {g h : Gr} (hg : Vg n g) (hh : Vg n h) {p : List Nat} (hp : isPermB n p = true) {W : World} {a1 b1 ea ca : Option Addr} {c d c1 d1 : Nat}
    (e1 : Edg W a1 (movedG n (nts p) g.es g.cs).es) (i1 : Ints W b1 (movedG n (nts p) g.es g.cs).cs) (e2 : Edg W ea h.es) (i2 : Ints W ca h.cs) :
    Calls Tryz.prog 21 #[.agg #[.int .i64 (n : Int), .slice a1 (movedG n (nts p) g.es g.cs).es.length c, .slice b1 n d], .agg #[.int .i64 (n : Int), .slice ea h.es.length c1, .slice ca n d1]] W fun e w' => e = .returned (.bool (hits n g h p)) ∧ Below W.heap.size W w' := by
  have hk := sameGraph_calls (c1 := c) (d1 := d) (c2 := c1) (d2 := d1) e1 i1 e2 i2
  have e3 : (movedG n (nts p) g.es g.cs).cs.length = n := movTo_len _ _ _ _
  have e4 : (movedG n (nts p) g.es g.cs).n = n := rfl
  rw [e3, e4, hh.num, hh.cl] at hk
  refine hk.mono fun e w' ⟨he, hb⟩ => ⟨?_, hb⟩
  rw [he]
  congr 2
  rw [Bool.eq_iff_iff, sameG_iff, hits_iff hg hh hp]; rfl
/-- Two slices of the call's own: the second one's block is not the first one's. -/
def ApartF (v o : Value) : Prop := o.ownBlock = none ∨ o.ownBlock ≠ v.ownBlock
set_option maxRecDepth 100000 in
set_option maxHeartbeats 2000000 in
theorem first_calls {w : World} {n : Nat} {g h : Gr} {ea ca eb cb : Option Addr} {c0 d0 c1 d1 : Nat} (hn : n ≤ 5) (hg : Vg n g) (hh : Vg n h) (he : Edg w ea g.es) (hc : Ints w ca g.cs) (he2 : Edg w eb h.es) (hc2 : Ints w cb h.cs) :
    Calls Tryz.prog 17 #[.agg #[.int .i64 (n : Int), .slice ea g.es.length c0, .slice ca n d0], .agg #[.int .i64 (n : Int), .slice eb h.es.length c1, .slice cb n d1]] w fun e w' =>
      ∃ a c, e = .returned (.tuple #[.slice a (optN (firstP n g h)).1.length c, .int .i64 (manyP n g h : Int)]) ∧ Ints w' a (optN (firstP n g h)).1 ∧ Below w.heap.size w w' := by
  obtain ⟨i3, hi3, hz3, hs3, hb3⟩ := info_parts Tryz.info3
  have I3 := Lib.hid (And.intro hi3 (And.intro hz3 (And.intro hs3 hb3)))
  clear hi3 hz3 hs3 hb3
  obtain ⟨X, hX⟩ : ∃ X, w.heap.size = X := ⟨_, rfl⟩
  have K22 := fun (W : World) (k : Below w.heap.size w W) (p : List Nat) (hp : isPermB n p = true) (pb : Option Addr) (e : Nat) (hi : Ints W pb (nts p)) => movd_calls (N := n) (L := g.es.length) (c := c0) (d := d0) (e := e) (by omega) rfl hg.cl (by have := (chkGr_ok.1 hg.chk).2.2.1; rwa [hg.num] at this) hp (he.below k) (hc.below k) hi
  have K21 := fun (W : World) (k : Below w.heap.size w W) (p : List Nat) (hp : isPermB n p = true) (a1 b1 : Option Addr) (c d : Nat) (e1 : Edg W a1 (movedG n (nts p) g.es g.cs).es) (i1 : Ints W b1 (movedG n (nts p) g.es g.cs).cs) => hit21 (c := c) (d := d) (c1 := c1) (d1 := d1) hg hh hp e1 i1 (he2.below k) (hc2.below k)
  have hb1 : Below w.heap.size w ((w.alloc (.cells #[.int .i64 (n : Int), .slice ea g.es.length c0, .slice ca n d0] 25)).alloc (.cells #[.int .i64 (n : Int), .slice eb h.es.length c1, .slice cb n d1] 25)) := alloc_b (alloc_b (Below.refl _ _) _) _
  obtain ⟨W1, hW1⟩ : ∃ W1, (w.alloc (.cells #[.int .i64 (n : Int), .slice ea g.es.length c0, .slice ca n d0] 25)).alloc (.cells #[.int .i64 (n : Int), .slice eb h.es.length c1, .slice cb n d1] 25) = W1 := ⟨_, rfl⟩
  rw [hW1] at hb1
  obtain ⟨L, hL⟩ : ∃ L, g.es.length = L := ⟨_, rfl⟩
  obtain ⟨M, hM⟩ : ∃ M, h.es.length = M := ⟨_, rfl⟩
  rw [hL, hM] at hW1
  simp only [hL] at K22
  simp only [hM] at K21
  rw [hL, hM]
  have x0 : W1.cell? ⟨X, 0, none⟩ = some (.int .i64 (n : Int)) := by rw [← hW1, ← hX]; simp
  have x1 : W1.cell? ⟨X, 1, none⟩ = some (.slice ea L c0) := by rw [← hW1, ← hX]; simp
  have x2 : W1.cell? ⟨X, 2, none⟩ = some (.slice ca n d0) := by rw [← hW1, ← hX]; simp
  have y0 : W1.cell? ⟨X + 1, 0, none⟩ = some (.int .i64 (n : Int)) := by rw [← hW1, ← hX]; simp
  have y1 : W1.cell? ⟨X + 1, 1, none⟩ = some (.slice eb M c1) := by rw [← hW1, ← hX]; simp
  have y2 : W1.cell? ⟨X + 1, 2, none⟩ = some (.slice cb n d1) := by rw [← hW1, ← hX]; simp
  have hs1 : W1.heap.size = X + 2 := by rw [← hW1, ← hX]; simp
  have hxW : ∀ W, Below W1.heap.size W1 W → W.cell? ⟨X, 0, none⟩ = some (.int .i64 (n : Int)) ∧ W.cell? ⟨X, 1, none⟩ = some (.slice ea L c0) ∧ W.cell? ⟨X, 2, none⟩ = some (.slice ca n d0) ∧ W.cell? ⟨X + 1, 0, none⟩ = some (.int .i64 (n : Int)) ∧ W.cell? ⟨X + 1, 1, none⟩ = some (.slice eb M c1) ∧ W.cell? ⟨X + 1, 2, none⟩ = some (.slice cb n d1) := fun W k =>
    ⟨(k.cell (block_lt_of_cell x0)).trans x0, (k.cell (block_lt_of_cell x1)).trans x1, (k.cell (block_lt_of_cell x2)).trans x2, (k.cell (block_lt_of_cell y0)).trans y0, (k.cell (block_lt_of_cell y1)).trans y1, (k.cell (block_lt_of_cell y2)).trans y2⟩
  have hwW : ∀ W, Below W1.heap.size W1 W → Below w.heap.size w W := fun W k => hb1.trans (k.mono (by rw [hs1, hX]; omega))
  have HK := Lib.hid (And.intro K22 (And.intro K21 (And.intro hxW (And.intro hwW (And.intro hs1 hX)))))
  have HG := Lib.hid (And.intro hg hh)
  clear K22 K21 hxW hwW hb1 he hc he2 hc2 hg hh hL hM
  go_enter Tryz.func17, Tryz.ntmps17
  go_wp2_with (go_at_call 20; refine (one_calls n (by omega) _).mono ?_; rintro e w2 ⟨v, rfl, ho, hw2⟩; have H2 := Lib.hid (And.intro ho hw2); clear ho hw2)
  clear x0 x1 x2 y0 y1 y2 hs1
  clear hW1
  obtain ⟨a, c, rfl⟩ : ∃ a c, v = .slice a n c := by
    obtain ⟨a, c, e⟩ := H2.out.1.any3 (by rw [ints_len, nts_len]; simp; unfold maxLen; omega)
    rw [ints_len, nts_len, List.length_range] at e
    exact ⟨a, c, e⟩
  go_loopg [7, 8] 121 (fun f many out wr => ∃ (k : Nat) (p : List Nat), (seqP n)[k]? = some p ∧ k + f = 121 ∧ many = .int .i64 (cntK n g h k : Int) ∧ Own wr W1.heap.size (.slice a n c) 3 (ints (nts p)) ∧ Own wr W1.heap.size out 3 (ints (optN (fstK n g h k)).1) ∧ ApartF (.slice a n c) out ∧ Below W1.heap.size W1 wr)
  case atStart => exact ⟨0, List.range n, seq_first, rfl, by rw [cntK_zero]; rfl, H2.out.1, by rw [fstK_zero]; exact Own.nil _ _ _, .inl rfl, H2.out.2⟩
  case round =>
    clear H2
    obtain ⟨k, p, hk, hkf, rfl, hv, hout, hap, hbw⟩ := hrel
    have hp := seq_permB hn hk
    have hk121 : k < 121 := by have := (List.getElem?_eq_some_iff.1 hk).1; have := (chain_facts hn).2; omega
    have hlp : p.length = n := (isPermB_iff.1 hp).1
    have hpi : Ints wr a (nts p) := hv.toInts (by rw [nts_len]; unfold maxLen; omega)
    have hB0 := HK.out.2.2.2.1 wr hbw
    obtain ⟨x0, x1, x2, y0, y1, y2⟩ := HK.out.2.2.1 wr hbw
    have H22 := fun W (q : Below wr.heap.size wr W) => HK.out.1 W (hB0.trans (q.mono hB0.size)) p hp a c (hpi.below q)
    have H21 := fun W (q : Below wr.heap.size wr W) a1 b1 c' d' e1 i1 => HK.out.2.1 W (hB0.trans (q.mono hB0.size)) p hp a1 b1 c' d' e1 i1
    obtain ⟨b, hb⟩ : ∃ b, hits n g h p = b := ⟨_, rfl⟩
    simp only [hb] at H21
    obtain ⟨mg, hmg⟩ : ∃ mg, movedG n (nts p) g.es g.cs = mg := ⟨_, rfl⟩
    simp only [hmg] at H21 H22
    obtain ⟨K, hK⟩ : ∃ K, cntK n g h k = K := ⟨_, rfl⟩
    rw [hK]
    have hK120 : K ≤ 120 := by rw [← hK]; exact cntK_le hn g h k
    have hx := And.intro x0 (And.intro x1 (And.intro x2 (And.intro y0 (And.intro y1 (And.intro y2 (Below.refl wr.heap.size wr))))))
    have keep : ∀ {W W' : World}, W.cell? ⟨X, 0, none⟩ = some (.int .i64 (n : Int)) ∧ W.cell? ⟨X, 1, none⟩ = some (.slice ea L c0) ∧ W.cell? ⟨X, 2, none⟩ = some (.slice ca n d0) ∧ W.cell? ⟨X + 1, 0, none⟩ = some (.int .i64 (n : Int)) ∧ W.cell? ⟨X + 1, 1, none⟩ = some (.slice eb M c1) ∧ W.cell? ⟨X + 1, 2, none⟩ = some (.slice cb n d1) ∧ Below wr.heap.size wr W → Below W.heap.size W W' →
        W'.cell? ⟨X, 0, none⟩ = some (.int .i64 (n : Int)) ∧ W'.cell? ⟨X, 1, none⟩ = some (.slice ea L c0) ∧ W'.cell? ⟨X, 2, none⟩ = some (.slice ca n d0) ∧ W'.cell? ⟨X + 1, 0, none⟩ = some (.int .i64 (n : Int)) ∧ W'.cell? ⟨X + 1, 1, none⟩ = some (.slice eb M c1) ∧ W'.cell? ⟨X + 1, 2, none⟩ = some (.slice cb n d1) ∧ Below wr.heap.size wr W' := fun h k =>
      ⟨(k.cell (block_lt_of_cell h.1)).trans h.1, (k.cell (block_lt_of_cell h.2.1)).trans h.2.1, (k.cell (block_lt_of_cell h.2.2.1)).trans h.2.2.1, (k.cell (block_lt_of_cell h.2.2.2.1)).trans h.2.2.2.1, (k.cell (block_lt_of_cell h.2.2.2.2.1)).trans h.2.2.2.2.1, (k.cell (block_lt_of_cell h.2.2.2.2.2.1)).trans h.2.2.2.2.2.1, below_two h.2.2.2.2.2.2 k⟩
    have lastB : ∀ {W : World}, W.cell? ⟨X, 0, none⟩ = some (.int .i64 (n : Int)) ∧ W.cell? ⟨X, 1, none⟩ = some (.slice ea L c0) ∧ W.cell? ⟨X, 2, none⟩ = some (.slice ca n d0) ∧ W.cell? ⟨X + 1, 0, none⟩ = some (.int .i64 (n : Int)) ∧ W.cell? ⟨X + 1, 1, none⟩ = some (.slice eb M c1) ∧ W.cell? ⟨X + 1, 2, none⟩ = some (.slice cb n d1) ∧ Below wr.heap.size wr W → Below wr.heap.size wr W := fun h => h.2.2.2.2.2.2
    have HR := Lib.hid (And.intro hv (And.intro hout (And.intro hap (And.intro hbw (And.intro hk (And.intro hp (And.intro hb (And.intro hK hlp))))))))
    have HC := Lib.hid (And.intro H22 H21)
    clear hv hout hap hbw hp hb hK hlp H22 H21 hpi hB0 hmg
    go_wp2
    go_cut [16] (fun u wx => u = .bool b ∧ Below wr.heap.size wr wx)
    case first =>
      go_region_held3 (fun W => W.cell? ⟨X, 0, none⟩ = some (.int .i64 (n : Int)) ∧ W.cell? ⟨X, 1, none⟩ = some (.slice ea L c0) ∧ W.cell? ⟨X, 2, none⟩ = some (.slice ca n d0) ∧ W.cell? ⟨X + 1, 0, none⟩ = some (.int .i64 (n : Int)) ∧ W.cell? ⟨X + 1, 1, none⟩ = some (.slice eb M c1) ∧ W.cell? ⟨X + 1, 2, none⟩ = some (.slice cb n d1) ∧ Below wr.heap.size wr W)
        (first
          | assumption
          | exact hx
          | exact keep (by assumption) (by first | assumption | exact below_self_drewN _ _)
          | exact keep hx (by first | assumption | exact below_self_drewN _ _))
        (first
          | (go_at_call 22; (with_reducible refine (HC.out.1 _ (lastB (by assumption))).mono ?_); rintro e w3 ⟨a1, k1, b1, d1, rfl, he1, hi1, hw3⟩)
          | (go_at_call 22; (with_reducible refine (HC.out.1 _ (below_self_drewN _ _)).mono ?_); rintro e w3 ⟨a1, k1, b1, d1, rfl, he1, hi1, hw3⟩)
          | (go_at_call 21; (with_reducible refine (HC.out.2 _ (lastB (by assumption)) _ _ _ _ he1 hi1).mono ?_); rintro e w4 ⟨rfl, hw4⟩))
      all_goals have hbe : Below wr.heap.size wr w4 := lastB (by assumption)
      all_goals go_wp2
      all_goals go_meet
      all_goals exact ⟨rfl, hbe⟩
    case rest =>
      obtain ⟨rfl, hbc⟩ := hcut
      have hv : Own wc W1.heap.size (.slice a n c) 3 (ints (nts p)) := HR.out.1.below hbc
      have hout : Own wc W1.heap.size u8 3 (ints (optN (fstK n g h k)).1) := HR.out.2.1.below hbc
      have hbw : Below W1.heap.size W1 wc := below_two HR.out.2.2.2.1 hbc
      have HV := Lib.hid (And.intro hv (And.intro hout hbw))
      clear hv hout hbw hbc HC hx keep lastB x0 x1 x2 y0 y1 y2
      go_step
      go_cut [7, 8] (fun m o wx => m = .int .i64 (cntK n g h (k + 1) : Int) ∧ Own wx W1.heap.size o 3 (ints (optN (fstK n g h (k + 1))).1) ∧ Own wx W1.heap.size (.slice a n c) 3 (ints (nts p)) ∧ ApartF (.slice a n c) o ∧ Below W1.heap.size W1 wx)
      case first =>
        cases b with
        | false =>
          have e1 := cntK_no (g := g) (h := h) HR.out.2.2.2.2.1 HR.out.2.2.2.2.2.2.1
          have e2 := fstK_no (g := g) (h := h) HR.out.2.2.2.2.1 HR.out.2.2.2.2.2.2.1
          rw [HR.out.2.2.2.2.2.2.2.1] at e1
          have HE := Lib.hid (And.intro e1 e2)
          clear e1 e2
          go_wp2
          go_meet
          exact ⟨by rw [HE.out.1], by rw [HE.out.2]; exact HV.out.2.1, HV.out.1, HR.out.2.2.1, HV.out.2.2⟩
        | true =>
          have e1 := cntK_yes (g := g) (h := h) HR.out.2.2.2.2.1 HR.out.2.2.2.2.2.2.1
          rw [HR.out.2.2.2.2.2.2.2.1] at e1
          by_cases h0 : K = 0
          · have e2 := fstK_yes (g := g) (h := h) HR.out.2.2.2.2.1 HR.out.2.2.2.2.2.2.1 (by rw [HR.out.2.2.2.2.2.2.2.1]; exact h0)
            have HE := Lib.hid (And.intro e1 e2)
            clear e1 e2
            subst h0
            have hem := Own.new (w := wc) (B := wc.heap.size) 3 [] (Nat.le_refl _) (Nat.zero_le _)
            have hba : Below wc.heap.size wc (wc.alloc (.cells #[] 3)) := alloc_b (Below.refl _ _) _
            have HM := Lib.hid (And.intro hem hba)
            clear hem hba
            have hbm : Below W1.heap.size W1 wc := HV.out.2.2
            have hWc := hbm.size
            clear hbm
            by_cases hn0 : n = 0
            · subst hn0
              cases a with
              | none =>
                go_wp2_with (at_builtin; refine appNil rfl (.tmp 19) (.tmp 20) 40 3 rfl i3 Tryz.underlying40 I3.out.1 (some ⟨wc.heap.size, 0, none⟩) 0 0 (Nat.le_refl _) rfl c rfl ?_)
                go_meet
                have hp0 : p = [] := List.eq_nil_of_length_eq_zero HR.out.2.2.2.2.2.2.2.2
                refine ⟨by rw [HE.out.1]; go_num, ?_, HV.out.1.below HM.out.2, ?_, below_two HV.out.2.2 HM.out.2⟩
                · rw [HE.out.2, hp0]; exact HM.out.1.mono hWc
                · exact .inr (fun e => by cases e)
              | some ad =>
                go_wp2_with (at_builtin; refine appA rfl (.tmp 19) (.tmp 20) 40 3 rfl i3 (.int .i64 0) 8 Tryz.underlying40 I3.out.1 I3.out.2.1 I3.out.2.2.1 I3.out.2.2.2 rfl (by omega) wc.heap.size (.slice (some ⟨wc.heap.size, 0, none⟩) 0 0) [] (ints (nts p)) rfl HM.out.1 ad 0 c rfl (by rw [ints_len, nts_len, HR.out.2.2.2.2.2.2.2.2]) ((HV.out.1.toInts (by rw [nts_len, HR.out.2.2.2.2.2.2.2.2]; unfold maxLen; omega)).below HM.out.2).src (ints_one _) (by simp) HM.out.2.size ?_; intro v6 w6 h2 h3; have H6 := Lib.hid (And.intro h2 h3); clear h2 h3)
                go_meet
                have hb6 : Below wc.heap.size wc w6 := HM.out.2.grown H6.out.2 HM.out.2.size (fun k hk => by cases hk; exact Nat.le_refl _)
                refine ⟨by rw [HE.out.1]; go_num, ?_, HV.out.1.below hb6, ?_, below_two HV.out.2.2 hb6⟩
                · rw [HE.out.2]; exact H6.out.1.mono hWc
                · rcases H6.out.1.blk with e | ⟨gx, cur, e, hge, _, _⟩
                  · exact .inl e
                  · right
                    rw [e]
                    intro e3
                    rcases HV.out.1.blk with e5 | ⟨gy, _, e5, _, hgy, _⟩
                    · rw [e5] at e3; cases e3
                    · rw [e5] at e3
                      have e4 : gx = gy := Option.some.inj e3
                      omega
            · obtain ⟨gb, ha⟩ : ∃ gb, a = some ⟨gb, 0, none⟩ := by
                obtain ⟨gb, cb2, hgc, _⟩ := HV.out.1.form (by rw [ints_len, nts_len, HR.out.2.2.2.2.2.2.2.2]; omega)
                injection hgc with ha _ hcc
                exact ⟨gb, ha⟩
              subst ha
              go_wp2_with (at_builtin; refine appA rfl (.tmp 19) (.tmp 20) 40 3 rfl i3 (.int .i64 0) 8 Tryz.underlying40 I3.out.1 I3.out.2.1 I3.out.2.2.1 I3.out.2.2.2 rfl (by omega) wc.heap.size (.slice (some ⟨wc.heap.size, 0, none⟩) 0 0) [] (ints (nts p)) rfl HM.out.1 ⟨gb, 0, none⟩ n c rfl (by rw [ints_len, nts_len, HR.out.2.2.2.2.2.2.2.2]) ((HV.out.1.toInts (by rw [nts_len, HR.out.2.2.2.2.2.2.2.2]; unfold maxLen; omega)).below HM.out.2).src (ints_one _) (by simp; omega) HM.out.2.size ?_; intro v6 w6 h2 h3; have H6 := Lib.hid (And.intro h2 h3); clear h2 h3)
              go_meet
              have hb6 : Below wc.heap.size wc w6 := HM.out.2.grown H6.out.2 HM.out.2.size (fun k hk => by cases hk; exact Nat.le_refl _)
              refine ⟨by rw [HE.out.1]; go_num, ?_, HV.out.1.below hb6, ?_, below_two HV.out.2.2 hb6⟩
              · rw [HE.out.2]; exact H6.out.1.mono hWc
              · rcases H6.out.1.blk with e | ⟨gx, cur, e, hge, _, _⟩
                · exact .inl e
                · right
                  rw [e]
                  intro e3
                  have e4 : gx = gb := Option.some.inj e3
                  have := block_lt_of_own (G := gb) HV.out.1
                  omega
          · have e2 := fstK_keep (g := g) (h := h) HR.out.2.2.2.2.1 (by rw [HR.out.2.2.2.2.2.2.2.1]; exact h0)
            have HE := Lib.hid (And.intro e1 e2)
            clear e1 e2
            go_wp2
            go_meet
            exact ⟨by rw [HE.out.1]; go_num, by rw [HE.out.2]; exact HV.out.2.1, HV.out.1, HR.out.2.2.1, HV.out.2.2⟩
      case rest =>
        obtain ⟨rfl, hout, hv, hap, hbw⟩ := hcut
        clear HV
        have hnx := next_any HR.out.2.2.2.2.2.1 (by omega) hv
        cases hq : nextF p with
        | none =>
          rw [hq] at hnx
          obtain ⟨e1, e2⟩ := all_end hn hk hq g h
          rw [e1]
          rw [e2] at hout
          have HN := Lib.hid hnx
          have hfl : (optN (firstP n g h)).1.length ≤ 5 := by
            cases hf : firstP n g h with
            | none => simp [optN]
            | some q =>
              have := (isPermB_iff.1 ((seq_mem hn).1 (List.mem_of_find?_eq_some hf))).1
              simp [optN, nts_len]; omega
          obtain ⟨ao, co, hoe⟩ := hout.any3 (by rw [ints_len]; unfold maxLen; omega)
          rw [ints_len] at hoe
          subst hoe
          have HO := Lib.hid (And.intro hout hbw)
          clear hout hv hap hbw e1 e2 hnx
          go_wp2_with (go_at_call 24; refine HN.out.mono ?_; rintro e w7 ⟨rfl, q7, rfl⟩)
          go_ret2
          exact ⟨ao, co, rfl, (HO.out.1.toInts (by unfold maxLen; omega)).drewN _, HK.out.2.2.2.1 _ (below_drewN HO.out.2 _)⟩
        | some q =>
          rw [hq] at hnx
          have hk2 := seq_more hn hk hq
          have HN := Lib.hid hnx
          have HO := Lib.hid (And.intro hout (And.intro hap hbw))
          clear hout hv hap hbw hnx
          go_wp2_with (go_at_call 24; refine HN.out.mono ?_; rintro e w7 ⟨rfl, ho7, hg7⟩; have H7 := Lib.hid (And.intro ho7 hg7); clear ho7 hg7)
          go_roundg (120 - k)
          case rel =>
            refine ⟨k + 1, q, hk2, by omega, rfl, H7.out.1, HO.out.1.kept H7.out.2 HO.out.2.1, HO.out.2.1, HO.out.2.2.grown H7.out.2 HO.out.2.2.size (fun gg hgg => (own_above H7.out.1 gg hgg).1)⟩
          case measure => omega
end Go.Proofs.YtjjjohmppehejaaGreat
