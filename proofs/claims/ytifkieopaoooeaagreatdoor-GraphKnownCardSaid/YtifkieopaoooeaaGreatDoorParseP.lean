/- Parse, the program's. -/
import Derived.Test.YtifkieopaoooeaaGreatDoorRdC
set_option linter.unusedSimpArgs false
set_option linter.unusedVariables false
namespace Go.Proofs.YtifkieopaoooeaaGreatDoor
open Go.RowKit Plain PlainG
theorem Rg.new (w : World) (b : ByteArray) (hb : b.size ≤ 20000) : Rg (w.alloc (.cells #[.string b, .int .i64 0, .int .i64 0, .int .i64 0] 87)) w.heap.size b 0 (0, 0) :=
  ⟨by simp, by simp, by simp, by simp, fun o => World.frozen?_alloc_new w _ _ o, by simp, hb⟩
def zeroGr : Value := .agg #[.int .i64 0, .slice none 0 0, .slice none 0 0]
/-- What Parse gives. -/
def ParseRes (w : World) (r : Except Flt Gr) (e : Ending) (w' : World) : Prop :=
  match r with
  | .ok g => ∃ a c b d, e = .returned (.tuple #[.agg #[.int .i64 g.n, .slice a g.es.length c, .slice b g.cs.length d], .agg #[.int .i64 0, .int .i64 0]]) ∧ OwnE w' w.heap.size 69 (.slice a g.es.length c) g.es ∧ Own w' w.heap.size (.slice b g.cs.length d) 3 (ints g.cs) ∧ g.es.length ≤ 20000 ∧ g.cs.length ≤ 24 ∧ Below w.heap.size w w'
  | .error f => e = .returned (.tuple #[zeroGr, .agg #[.int .i64 f.1, .int .i64 (f.2 : Int)]]) ∧ Below w.heap.size w w'
theorem Own.raise {w : World} {B B' g n c : Nat} {a : Option Addr} {T : TypeId} {xs : List Value} (h : Own w B (.slice a n c) T xs) (ha : a = some ⟨g, 0, none⟩) (hg : B' ≤ g) : Own w B' (.slice a n c) T xs := by
  refine ⟨h.1, ?_⟩
  rcases h.2 with h2 | ⟨g', cap, cur, e, hB, r⟩
  · exact .inl h2
  · subst ha
    cases e
    exact .inr ⟨g, c, cur, rfl, hg, r⟩
theorem parse_num {b : List Nat} (hb : ¬ 20000 < b.length) : parse b = match num b 0 24 with
    | .error e => .error e
    | .ok (N, a) => match restP b N b.length a none with
      | .error e => .error e
      | .ok (es, cs) => .ok ⟨N, es, cs⟩ := by
  unfold parse
  rw [if_neg hb]
  cases num b 0 24 with
  | error e => rfl
  | ok x =>
    obtain ⟨N, a⟩ := x
    simp only
    cases restP b N b.length a none <;> rfl
def preP (N : Nat) (es : List (Int × Int)) (r : Except Flt (List (Int × Int) × List Int)) : Except Flt Gr := match r with | .ok x => .ok ⟨N, es ++ x.1, x.2⟩ | .error e => .error e
theorem restP_past {b : List Nat} {N f at_ : Nat} {last : Option (Int × Int)} (h : b.length ≤ at_) : restP b N f at_ last = .ok ([], List.replicate N 0) := by
  cases f with
  | zero => rfl
  | succ f => rw [restP, if_neg (by omega)]
theorem restP_sgn {b : List Nat} {N f at_ : Nat} {last : Option (Int × Int)} {e : Flt} (h : at_ < b.length) (h1 : sgn b at_ 32 = .error e) : restP b N (f + 1) at_ last = .error e := by
  rw [restP, if_pos h, h1]
theorem restP_cols {b : List Nat} {N f at_ a1 : Nat} {last : Option (Int × Int)} (h : at_ < b.length) (h1 : sgn b at_ 32 = .ok a1) (h2 : a1 < b.length ∧ b[a1]?.getD 0 = 58) : restP b N (f + 1) at_ last = match colsA b N a1 with | .error e => .error e | .ok cs => .ok ([], cs) := by
  rw [restP, if_pos h, h1]
  simp only
  rw [if_pos h2]
  cases colsA b N a1 <;> rfl
theorem restP_edge {b : List Nat} {N f at_ a1 : Nat} {last : Option (Int × Int)} {e : Flt} (h : at_ < b.length) (h1 : sgn b at_ 32 = .ok a1) (h2 : ¬ (a1 < b.length ∧ b[a1]?.getD 0 = 58)) (h3 : edgeP b N a1 last = .error e) : restP b N (f + 1) at_ last = .error e := by
  rw [restP, if_pos h, h1]
  simp only
  rw [if_neg h2, h3]
theorem restP_go {b : List Nat} {N f at_ a1 a2 : Nat} {last : Option (Int × Int)} {x : Int × Int} {es : List (Int × Int)} (h : at_ < b.length) (h1 : sgn b at_ 32 = .ok a1) (h2 : ¬ (a1 < b.length ∧ b[a1]?.getD 0 = 58)) (h3 : edgeP b N a1 last = .ok (x, a2)) : preP N es (restP b N (f + 1) at_ last) = preP N (es ++ [x]) (restP b N f a2 (some x)) := by
  rw [restP, if_pos h, h1]
  simp only
  rw [if_neg h2, h3]
  simp only
  cases restP b N f a2 (some x) <;> simp [preP]
theorem Kept.transW {a b c : World} {S S' : List Nat} (h : Kept a b S) (k : Kept b c S') (hs : ∀ x ∈ S', x ∈ S ∨ a.heap.size ≤ x) : Kept a c S :=
  ⟨k.os.trans h.os, k.tape.trans h.tape, k.output.trans h.output, Nat.le_trans h.size k.size, fun i hi hn => (k.block i (Nat.lt_of_lt_of_le hi h.size) (fun hm => by
    rcases hs i hm with h1 | h1
    · exact hn h1
    · omega)).trans (h.block i hi hn)⟩
/-- Where the loop of Parse stands. -/
structure PSt (W0 : World) (p q N : Nat) (b : ByteArray) (u : Value) (P : Except Flt Gr) (wr : World) (at_ : Nat) (es : List (Int × Int)) (cs : List Int) (v : Value) : Prop where
  rg : Rg wr p b at_ (0, 0)
  gb : GB wr q N v u
  es' : OwnE wr W0.heap.size 69 v es
  cs' : Own wr 0 u 3 (ints cs)
  len : cs.length = N
  few : es.length ≤ at_ ∧ es.length ≤ 20000
  kept : Kept W0 wr (p :: q :: u.ownBlock.toList)
  go : at_ < b.size → cs = List.replicate N 0 ∧ ∃ f, b.size ≤ at_ + f ∧ P = preP N es (restP (bytesOf b) N f at_ es.getLast?)
  stop : b.size ≤ at_ → P = .ok ⟨N, es, cs⟩
theorem heap_new (w : World) (o : Obj) : (w.alloc o).heap[w.heap.size]? = some o := by
  show (w.heap.push o)[w.heap.size]? = some o
  simp
theorem zres_cells {w : World} {D : Nat} (h : w.heap[D]? = some (.cells #[.int .i64 0, .slice none 0 0, .slice none 0 0] 25)) : w.cell? ⟨D, 0, none⟩ = some (.int .i64 0) ∧ w.cell? ⟨D, 1, none⟩ = some (.slice none 0 0) ∧ w.cell? ⟨D, 2, none⟩ = some (.slice none 0 0) ∧ ∀ o, w.frozen? ⟨D, o, none⟩ = false := by
  refine ⟨by simp [World.cell?, h], by simp [World.cell?, h], by simp [World.cell?, h], fun o => by simp [World.frozen?, h]⟩
theorem zflt_cells {w : World} {D : Nat} (h : w.heap[D]? = some (.cells #[.int .i64 0, .int .i64 0] 32)) : w.cell? ⟨D, 0, none⟩ = some (.int .i64 0) ∧ w.cell? ⟨D, 1, none⟩ = some (.int .i64 0) ∧ ∀ o, w.frozen? ⟨D, o, none⟩ = false := by
  refine ⟨by simp [World.cell?, h], by simp [World.cell?, h], fun o => by simp [World.frozen?, h]⟩
theorem cell_set_same {w : World} {p : Addr} {u v : Value} (h : w.cell? p = some u) : (w.setCell p v).cell? p = some v := World.cell?_setCell_same _ _ _ h
theorem cell_set_other {w : World} {p r : Addr} {v : Value} (h : p ≠ r) : (w.setCell p v).cell? r = w.cell? r := World.cell?_setCell_other _ _ _ _ h
theorem parse_out {w : World} {D : Nat} (a0 a1 a2 b0 b1 : Value) (h1 : w.heap[D]? = some (.cells #[.int .i64 0, .slice none 0 0, .slice none 0 0] 25)) (h2 : w.heap[D + 1]? = some (.cells #[.int .i64 0, .int .i64 0] 32)) :
    ∃ W, W = ((((w.setCell ⟨D, 0, none⟩ a0).setCell ⟨D, 1, none⟩ a1).setCell ⟨D, 2, none⟩ a2).setCell ⟨D + 1, 0, none⟩ b0).setCell ⟨D + 1, 1, none⟩ b1 ∧ W.cell? ⟨D, 0, none⟩ = some a0 ∧ W.cell? ⟨D, 1, none⟩ = some a1 ∧ W.cell? ⟨D, 2, none⟩ = some a2 ∧ W.cell? ⟨D + 1, 0, none⟩ = some b0 ∧ W.cell? ⟨D + 1, 1, none⟩ = some b1 ∧ Below D w W ∧ ∀ k, k ≠ D → k ≠ D + 1 → W.heap[k]? = w.heap[k]? := by
  obtain ⟨r1, r2, r3, _⟩ := zres_cells h1
  obtain ⟨s1, s2, _⟩ := zflt_cells h2
  refine ⟨_, rfl, ?_, ?_, ?_, ?_, ?_, ?_, ?_⟩
  · rw [cell_set_other (by simp), cell_set_other (by simp), cell_set_other (by simp), cell_set_other (by simp), cell_set_same r1]
  · rw [cell_set_other (by simp), cell_set_other (by simp), cell_set_other (by simp), cell_set_same ((cell_set_other (by simp)).trans r2)]
  · rw [cell_set_other (by simp), cell_set_other (by simp), cell_set_same ((cell_set_other (by simp)).trans ((cell_set_other (by simp)).trans r3))]
  · rw [cell_set_other (by simp), cell_set_same ((cell_set_other (by simp)).trans ((cell_set_other (by simp)).trans ((cell_set_other (by simp)).trans s1)))]
  · rw [cell_set_same ((cell_set_other (by simp)).trans ((cell_set_other (by simp)).trans ((cell_set_other (by simp)).trans ((cell_set_other (by simp)).trans s2))))]
  · exact ((((Below.refl D w).setCell (p := ⟨D, 0, none⟩) (Nat.le_refl _) _).setCell (p := ⟨D, 1, none⟩) (Nat.le_refl _) _).setCell (p := ⟨D, 2, none⟩) (Nat.le_refl _) _).setCell (p := ⟨D + 1, 0, none⟩) (Nat.le_succ _) _ |>.setCell (p := ⟨D + 1, 1, none⟩) (Nat.le_succ _) _
  · intro k hk1 hk2
    rw [Below.heap_setCell _ _ _ _ hk2, Below.heap_setCell _ _ _ _ hk2, Below.heap_setCell _ _ _ _ hk1, Below.heap_setCell _ _ _ _ hk1, Below.heap_setCell _ _ _ _ hk1]
def zres : Obj := .cells #[.int .i64 0, .slice none 0 0, .slice none 0 0] 25
def zflt : Obj := .cells #[.int .i64 0, .int .i64 0] 32
theorem parse_start {w w2 w3 W0 : World} {b : ByteArray} {a N : Nat} {f : Int × Nat} {F1 F2 : Value} {T : TypeId}
    (h1 : RgTo (((w.alloc (.cells #[.int .i64 0, .slice none 0 0, .slice none 0 0] 25)).alloc (.cells #[.int .i64 0, .int .i64 0] 32)).alloc (.cells #[.string b, .int .i64 0, .int .i64 0, .int .i64 0] 87)) w2 (w.heap.size + 1 + 1) b a f)
    (h2 : Own w3 0 (.slice (some ⟨w2.heap.size, 0, none⟩) N N) 3 (List.replicate N (.int .i64 0))) (h3 : w2.grownBy w3 none) (h4 : w3.heap.size = w2.heap.size + 1)
    (hW : W0 = (w3.alloc (.cells #[.int .i64 (N : Int), .slice none 0 0, .slice (some ⟨w2.heap.size, 0, none⟩) N N] 25)).alloc (.cells #[F1, F2] T)) :
    w.heap.size + 1 + 1 < w2.heap.size ∧ Rg W0 (w.heap.size + 1 + 1) b a f ∧ GB W0 w3.heap.size N (.slice none 0 0) (.slice (some ⟨w2.heap.size, 0, none⟩) N N) ∧ Own W0 0 (.slice (some ⟨w2.heap.size, 0, none⟩) N N) 3 (ints (List.replicate N 0)) ∧ Below w.heap.size w W0 ∧
    W0.cell? ⟨w3.heap.size + 1, 0, none⟩ = some F1 ∧ W0.cell? ⟨w3.heap.size + 1, 1, none⟩ = some F2 ∧ W0.heap.size = w3.heap.size + 1 + 1 ∧
    W0.heap[w.heap.size]? = some zres ∧ W0.heap[w.heap.size + 1]? = some zflt := by
  subst hW
  have hs : (((w.alloc (.cells #[.int .i64 0, .slice none 0 0, .slice none 0 0] 25)).alloc (.cells #[.int .i64 0, .int .i64 0] 32)).alloc (.cells #[.string b, .int .i64 0, .int .i64 0, .int .i64 0] 87)).heap.size = w.heap.size + 1 + 1 + 1 := by simp
  have hlt : w.heap.size + 1 + 1 < w2.heap.size := by have := h1.2.size; omega
  have hk1 : ∀ k, k < w3.heap.size → ((w3.alloc (.cells #[.int .i64 (N : Int), .slice none 0 0, .slice (some ⟨w2.heap.size, 0, none⟩) N N] 25)).alloc (.cells #[F1, F2] T)).heap[k]? = w3.heap[k]? := fun k hk => (Below.heap_alloc _ _ k (by simp; omega)).trans (Below.heap_alloc _ _ k hk)
  have hk2 : ∀ k, k < w2.heap.size → w3.heap[k]? = w2.heap[k]? := fun k hk => h3.block k hk (by simp)
  have hk3 : ∀ k, k < w.heap.size + 1 + 1 → w2.heap[k]? = (((w.alloc (.cells #[.int .i64 0, .slice none 0 0, .slice none 0 0] 25)).alloc (.cells #[.int .i64 0, .int .i64 0] 32)).alloc (.cells #[.string b, .int .i64 0, .int .i64 0, .int .i64 0] 87)).heap[k]? := fun k hk => h1.2.block k (by omega) (by intro e; cases e; omega)
  refine ⟨hlt, ?_, ?_, ?_, ?_, by simp, by simp, by simp, ?_, ?_⟩
  · refine ((h1.1.grown h3 (by simp)).grown (grown_alloc _ _ none) (by simp)).grown (grown_alloc _ _ none) (by simp)
  · have hg : GB (w3.alloc (.cells #[.int .i64 (N : Int), .slice none 0 0, .slice (some ⟨w2.heap.size, 0, none⟩) N N] 25)) w3.heap.size N (.slice none 0 0) (.slice (some ⟨w2.heap.size, 0, none⟩) N N) :=
      ⟨by simp, by simp, by simp, fun o => World.frozen?_alloc_new w3 _ _ o, by simp⟩
    exact hg.grown (grown_alloc _ _ none) (by simp)
  · rw [← ints_zero]
    exact (h2.alloc _).alloc _
  · have hb : Below w.heap.size w w2 := ((((Below.refl _ w).alloc (Nat.le_refl _) _).alloc (by simp) _).alloc (by simp; omega) _).grown h1.2 (by rw [hs]; omega) (by intro k e; cases e; omega)
    exact (((hb.grown h3 (by omega) (by simp)).alloc (by omega) _).alloc (by simp; omega) _)
  · rw [hk1 _ (by omega), hk2 _ (by omega), hk3 _ (by omega)]
    rw [Below.heap_alloc _ _ _ (by simp; omega), Below.heap_alloc _ _ _ (by simp)]
    exact heap_new w zres
  · rw [hk1 _ (by omega), hk2 _ (by omega), hk3 _ (by omega)]
    rw [Below.heap_alloc _ _ _ (by simp)]
    have : w.heap.size + 1 = (w.alloc (.cells #[.int .i64 0, .slice none 0 0, .slice none 0 0] 25)).heap.size := by simp
    rw [this]
    exact heap_new _ zflt
set_option maxRecDepth 100000 in
set_option maxHeartbeats 4000000 in
theorem gparse_calls (b : ByteArray) (w : World) (hbig : b.size ≤ 1000000) :
    Calls Tryz.prog 14 #[.string b] w fun e w' => ParseRes w (parse (bytesOf b)) e w' := by
  have hbl := bytesOf_len b
  obtain ⟨P, hP⟩ : ∃ P, parse (bytesOf b) = P := ⟨_, rfl⟩
  rw [hP]
  by_cases hlong : 20000 < b.size
  · have hE : P = .error (4, 20000) := by rw [← hP]; unfold parse; rw [hbl, if_pos hlong]
    obtain ⟨S, hS⟩ : ∃ S, b.size = S := ⟨_, rfl⟩
    rw [hS] at hlong hbig
    have H := Lib.hid (And.intro hE hS)
    clear hE hP hbl
    go_enter Tryz.func14, Tryz.ntmps14
    go_wp2
    have h9 := H.out.1
    subst h9
    exact bodyPost_ret (v := .tuple #[zeroGr, .agg #[.int .i64 4, .int .i64 20000]]) (by simp [results, Tryz.results14, go_sem, zeroGr]) rfl ⟨rfl, ((Below.refl _ _).alloc (Nat.le_refl _) _).alloc (by simp) _⟩
  · have hnb : ¬ 20000 < (bytesOf b).length := by rw [hbl]; exact hlong
    have hpn := parse_num hnb
    rw [hP] at hpn
    have hK57 : ∃ (N : Nat) (ok0 : Bool), N ≤ 24 ∧ ∀ w1 p, Rg w1 p b 0 (0, 0) → Calls Tryz.prog 57 #[.pointer (some ⟨p, 0, none⟩), .int .i64 24] w1 fun e w' => e = .returned (.tuple #[.int .i64 (N : Int), .bool ok0]) ∧ ∃ a f, RgTo w1 w' p b a f ∧
        ((ok0 = true ∧ f = (0, 0) ∧ a ≤ b.size ∧ P = preP N [] (restP (bytesOf b) N b.size a none)) ∨ (ok0 = false ∧ P = .error f)) := by
      cases hn : num (bytesOf b) 0 24 with
      | error f =>
        rw [hn] at hpn
        refine ⟨0, false, by omega, fun w1 p h => (number_bad h (by omega) hn).mono ?_⟩
        rintro e w' ⟨rfl, a, h1⟩
        exact ⟨rfl, a, f, h1, .inr ⟨rfl, hpn⟩⟩
      | ok x =>
        obtain ⟨N, a⟩ := x
        rw [hn] at hpn
        obtain ⟨n1, n2, _, _⟩ := num_inv hn (by omega)
        refine ⟨N, true, by omega, fun w1 p h => (number_ok h (by omega) hn).mono ?_⟩
        rintro e w' ⟨rfl, h1⟩
        refine ⟨rfl, a, _, h1, .inl ⟨rfl, rfl, by omega, ?_⟩⟩
        rw [hpn, hbl]
        simp only [preP]
        cases restP (bytesOf b) N b.size a none <;> simp
    obtain ⟨N, ok0, hN, hK⟩ := hK57
    have hrg := Rg.new ((w.alloc (.cells #[.int .i64 0, .slice none 0 0, .slice none 0 0] 25)).alloc (.cells #[.int .i64 0, .int .i64 0] 32)) b (by omega)
    have hs3 : ((w.alloc (.cells #[.int .i64 0, .slice none 0 0, .slice none 0 0] 25)).alloc (.cells #[.int .i64 0, .int .i64 0] 32)).heap.size = w.heap.size + 1 + 1 := by simp
    rw [hs3] at hrg
    obtain ⟨S, hS⟩ : ∃ S, b.size = S := ⟨_, rfl⟩
    have hlS : ¬ 20000 < S := by omega
    have hbS : S ≤ 1000000 := by omega
    have H := Lib.hid (And.intro hrg (And.intro (hK _ _ hrg) hS))
    obtain ⟨i3, hi3, hz3, hs3, hb3⟩ := info_parts Tryz.info3
    have I3 := Lib.hid (And.intro hi3 (And.intro hz3 (And.intro hs3 hb3)))
    clear hrg hK hP hbl hnb hpn hlong hbig hi3 hz3 hs3 hb3
    go_enter Tryz.func14, Tryz.ntmps14
    go_wp2_with (first
      | (go_at_call 57; refine H.out.2.1.mono ?_; rintro e w2 ⟨rfl, hw2⟩; have HA := Lib.hid hw2; clear hw2)
      | (at_make; refine mk1 rfl _ _ 23 3 rfl i3 (.int .i64 0) 8 Tryz.underlying23 I3.out.1 I3.out.2.1 I3.out.2.2.1 I3.out.2.2.2 rfl (by omega) 0 N rfl rfl (by omega) (Nat.zero_le _) ?_; intro w3 hd hg hz1; have HB := Lib.hid (And.intro hd (And.intro hg hz1)); clear hd hg hz1))
    obtain ⟨W0, hW0⟩ : ∃ W0, W0 = ((w3.alloc (.cells #[.int .i64 (N : Int), .slice none 0 0, .slice (some ⟨w2.heap.size, 0, none⟩) N N] 25)).alloc (.cells #[.func (.func 58) #[.pointer (some ⟨w.heap.size + 1 + 1, 0, none⟩)] #[], .func (.func 59) #[.pointer (some ⟨w.heap.size + 1 + 1, 0, none⟩)] #[]] 90)) := ⟨_, rfl⟩
    rw [← hW0]
    obtain ⟨a0, f0, hA1, hA2⟩ := HA.out
    obtain ⟨g1, g2, g3, g4, g5, g6, g7, g8, g9, g10⟩ := parse_start hA1 HB.out.1 HB.out.2.1 HB.out.2.2 hW0
    have hgq := HB.out.2.2
    clear hW0 HA HB H hA1 I3
    generalize hp : w.heap.size + 1 + 1 = p at *
    generalize hgu : w2.heap.size = gu at *
    generalize hq : w3.heap.size = q at *
    generalize hD : w.heap.size = D at *
    have far : ∀ wr, Kept W0 wr [p, q, gu] → wr.cell? ⟨q + 1, 0, none⟩ = some (.func (.func 58) #[.pointer (some ⟨p, 0, none⟩)] #[]) ∧ wr.cell? ⟨q + 1, 1, none⟩ = some (.func (.func 59) #[.pointer (some ⟨p, 0, none⟩)] #[]) ∧ wr.heap[D]? = some zres ∧ wr.heap[D + 1]? = some zflt ∧ Below D w wr := by
      intro wr k
      refine ⟨(k.cell (by simp; omega) (by simp; omega)).trans g6, (k.cell (by simp; omega) (by simp; omega)).trans g7, (k.block _ (by omega) (by simp; omega)).trans g9, (k.block _ (by omega) (by simp; omega)).trans g10, ?_⟩
      exact g5.trans (k.below (by omega) (by simp; omega))
    have hst : (ok0 = true ∧ ∃ at_ es cs v, PSt W0 p q N b (.slice (some ⟨gu, 0, none⟩) N N) P W0 at_ es cs v) ∨ (ok0 = false ∧ ∃ at_ f, Rg W0 p b at_ f ∧ P = .error f ∧ Kept W0 W0 [p, q, gu]) := by
      rcases hA2 with ⟨h1, h2, h3, h4⟩ | ⟨h1, h2⟩
      · subst h2
        refine .inl ⟨h1, a0, [], List.replicate N 0, .slice none 0 0, g2, g3, OwnE.nil _ _ _, g4, by simp, by simp, Kept.refl _ _, fun _ => ⟨rfl, b.size, by omega, h4⟩, fun h => ?_⟩
        rw [h4, restP_past (by rw [bytesOf_len]; exact h)]
        simp [preP]
      · exact .inr ⟨h1, a0, f0, g2, h2, Kept.refl _ _⟩
    have HF := Lib.hid (And.intro far (And.intro g1 (And.intro hgq (And.intro g8 hp))))
    clear far hA2 g1 g2 g3 g4 g5 g6 g7 g8 g9 g10 hgq hp
    go_loopw [6] (fun okv wr => ∃ okb : Bool, okv = .bool okb ∧ ((okb = true ∧ ∃ at_ es cs v, PSt W0 p q N b (.slice (some ⟨gu, 0, none⟩) N N) P wr at_ es cs v) ∨ (okb = false ∧ ∃ at_ f, Rg wr p b at_ f ∧ P = .error f ∧ Kept W0 wr [p, q, gu]))) (fun okv wr => match okv with | .bool true => 20001 - posOf wr p | _ => 0)
    case atStart => exact ⟨ok0, rfl, hst⟩
    case round =>
      obtain ⟨okb, rfl, hcase⟩ := hrel
      rcases hcase with ⟨rfl, at_, es, cs, v, hs⟩ | ⟨rfl, at_, f, hr, hPf, hk⟩
      · have r1 := hs.rg.c1
        have hpos := hs.rg.pos
        have hsep := HF.out.2
        by_cases hlt : at_ < S
        · cases h1 : sgn (bytesOf b) at_ 32 with
          | error f =>
            have K1 := sign_bad hs.rg (by omega) h1
            have hPf : P = .error f := by
              obtain ⟨_, fu, hfu, hp2⟩ := hs.go (by rw [hS]; exact hlt)
              obtain ⟨fu, rfl⟩ : ∃ m, fu = m + 1 := ⟨fu - 1, by omega⟩
              rw [hp2, restP_sgn (by rw [bytesOf_len, hS]; exact hlt) h1]; rfl
            have HS := Lib.hid (And.intro K1 (And.intro hPf hs.kept))
            clear hs K1 h1 hPf hsep
            go_wp2_with (go_at_call 60; refine HS.out.1.mono ?_; rintro e w4 ⟨rfl, hw4⟩; have HA := Lib.hid hw4; clear hw4)
            obtain ⟨a9, h9⟩ := HA.out
            have hk := HS.out.2.2.trans (Kept.ofGrown h9.2 (by intro k e; cases e; simp))
            have hr := h9.1
            have hPf := HS.out.2.1
            obtain ⟨r1, r2, r3, r4⟩ := zres_cells (HF.out.1 _ hk).2.2.1
            obtain ⟨s1, s2, s3⟩ := zflt_cells (HF.out.1 _ hk).2.2.2.1
            have c2 := hr.c2
            have c3 := hr.c3
            have fr0 := r4 0
            have fr1 := r4 1
            have fr2 := r4 2
            have fs0 := s3 0
            have fs1 := s3 1
            have HR := Lib.hid (And.intro hPf (And.intro (HF.out.1 _ hk).2.2.2.2 (And.intro (HF.out.1 _ hk).2.2.1 (HF.out.1 _ hk).2.2.2.1)))
            have hpD := HF.out.2.2.2.2
            have hpne : p ≠ D := by omega
            have hpne2 : p ≠ D + 1 := by omega
            clear hr hPf hk h9 r4 s3
            go_region
            all_goals
              go_wp2
              obtain ⟨W, hW, w0, w1, w2, w3, w4, w5, _⟩ := parse_out (.int .i64 0) (.slice none 0 0) (.slice none 0 0) (.int .i64 f.1) (.int .i64 (f.2 : Int)) HR.out.2.2.1 HR.out.2.2.2
              rw [← hW]
              have h9 := HR.out.1
              subst h9
              exact bodyPost_ret (v := .tuple #[zeroGr, .agg #[.int .i64 f.1, .int .i64 (f.2 : Int)]]) (by simp [results, Tryz.results14, go_sem, zeroGr, w0, w1, w2, w3, w4]) rfl ⟨rfl, by rw [hD]; exact (HR.out.2.1.trans w5).drew⟩
          | ok a1 =>
            obtain ⟨e1, e2, _⟩ := sgn_inv h1
            rw [bytesOf_len, hS] at e2
            have K1 := sign_yes hs.rg h1
            obtain ⟨hz, fu, hfu, hp2⟩ := hs.go (by rw [hS]; exact hlt)
            obtain ⟨fu, rfl⟩ : ∃ m, fu = m + 1 := ⟨fu - 1, by omega⟩
            subst hz
            have hvp : v.ownBlock ≠ some p := fun e => by have := (hs.es'.block_lt e).2; omega
            have hvq : v.ownBlock ≠ some q := fun e => by have := (hs.es'.block_lt e).2; omega
            have hvu : v.ownBlock ≠ some gu := fun e => by have := (hs.es'.block_lt e).2; omega
            have hpq : p ≠ q := by omega
            have hpu : gu ≠ p := by omega
            have hqu : gu ≠ q := by omega
            have K2 := fun w4 (h : RgTo wr w4 p b a1 (0, 0)) => next_calls h.1 58 (by omega)
            have K3 : ∀ w4, RgTo wr w4 p b a1 (0, 0) → GB w4 q N v (.slice (some ⟨gu, 0, none⟩) N N) ∧ OwnE w4 W0.heap.size 69 v es ∧ Own w4 0 (.slice (some ⟨gu, 0, none⟩) N N) 3 (ints (List.replicate N 0)) := fun w4 h =>
              ⟨hs.gb.grown h.2 (by intro e; cases e; exact hpq rfl), hs.es'.kept h.2 (by right; exact hvp), hs.cs'.kept h.2 (by right; intro e; cases e; exact hpu rfl)⟩
            have K4 : ∀ w4, RgTo wr w4 p b a1 (0, 0) → Kept W0 w4 [p, q, gu] := fun w4 h => hs.kept.trans (Kept.ofGrown h.2 (by intro k e; cases e; simp))
            have hfew := hs.few
            by_cases hcol : a1 < S ∧ (bytesOf b)[a1]?.getD 0 = 58
            · have hb : (decide (a1 < b.size) && ((bytesOf b)[a1]?.getD 0 == 58)) = true := by rw [hS]; simp [hcol.1, hcol.2]
              rw [hb] at K2
              have hp3 : P = match colsA (bytesOf b) N a1 with | .error e => .error e | .ok cs => .ok ⟨N, es, cs⟩ := by
                rw [hp2, restP_cols (by rw [bytesOf_len, hS]; exact hlt) h1 (by rw [bytesOf_len, hS]; exact hcol)]
                cases colsA (bytesOf b) N a1 <;> simp [preP]
              have K5 := fun w4 (h : RgTo wr w4 p b a1 (0, 0)) (qn : Nat) => rcol_calls (w := w4.drewN qn) (v := v) (B := 0) (h.1.drewN qn) (by rw [hS]; exact hcol.1) ((K3 w4 h).1.grown (grown_drewN _ qn none) (by simp)) ((K3 w4 h).2.2.drewN qn) hpq (by intro e; cases e; exact hpu rfl) (by intro e; cases e; exact hqu rfl) hN (Nat.zero_le _)
              cases h5 : colsA (bytesOf b) N a1 with
              | error f =>
                rw [h5] at hp3
                simp only [h5] at K5
                simp only at hp3
                have HS := Lib.hid (And.intro K1 (And.intro K2 (And.intro K3 (And.intro K4 (And.intro K5 hp3)))))
                clear K1 K2 K3 K4 K5 hp3 hp2 hs h1 h5 hcol hb hvp hvq hvu hfew hsep
                go_wp2_with (first
                  | (go_at_call 60; refine HS.out.1.mono ?_; rintro e w4 ⟨rfl, hw4⟩; have HA := Lib.hid hw4; clear hw4; obtain ⟨k0, k1, _⟩ := HF.out.1 _ (HS.out.2.2.2.1 _ HA.out))
                  | (go_at_call 61; refine (HS.out.2.1 _ HA.out).mono ?_; rintro e w5 ⟨rfl, q5, rfl⟩)
                  | (go_at_call 59; refine (HS.out.2.2.2.2.1 _ HA.out _).mono ?_; rintro e w6 ⟨rfl, hw6⟩; have HB := Lib.hid hw6; clear hw6))
                obtain ⟨a9, h9, h10⟩ := HB.out
                exact ⟨⟨false, rfl, .inr ⟨rfl, a9, f, h9, HS.out.2.2.2.2.2, ((HS.out.2.2.2.1 _ HA.out).drewN _).trans (h10.mono (by intro k hk; simp [Value.ownBlock] at hk; rcases hk with h | h <;> simp [h]))⟩⟩, by rw [hpos]; simp; omega⟩
              | ok cs' =>
                rw [h5] at hp3
                simp only [h5] at K5
                simp only at hp3
                have HS := Lib.hid (And.intro K1 (And.intro K2 (And.intro K3 (And.intro K4 (And.intro K5 (And.intro hp3 (And.intro hvp (And.intro hvu hfew))))))))
                clear K1 K2 K3 K4 K5 hp3 hp2 hs h1 h5 hcol hb hvp hvq hvu hfew hsep
                go_wp2_with (first
                  | (go_at_call 60; refine HS.out.1.mono ?_; rintro e w4 ⟨rfl, hw4⟩; have HA := Lib.hid hw4; clear hw4; obtain ⟨k0, k1, _⟩ := HF.out.1 _ (HS.out.2.2.2.1 _ HA.out))
                  | (go_at_call 61; refine (HS.out.2.1 _ HA.out).mono ?_; rintro e w5 ⟨rfl, q5, rfl⟩)
                  | (go_at_call 59; refine (HS.out.2.2.2.2.1 _ HA.out _).mono ?_; rintro e w6 ⟨rfl, hw6⟩; have HB := Lib.hid hw6; clear hw6))
                obtain ⟨a9, h8, h9, h10, h11, h12⟩ := HB.out
                have hsub : ∀ k ∈ [p, gu], k ∈ [p, q, gu] := by intro k hk; simp at hk; rcases hk with h | h <;> simp [h]
                rw [hS] at h8
                have h20 := h9.len
                rw [hS] at h20
                have hseq := HF.out.2
                have hge : W0.heap.size ≤ W0.heap.size := Nat.le_refl _
                have hG6 := ((HS.out.2.2.1 _ HA.out).1.grown (grown_drewN _ q5 none) (by simp)).keptL h12 (by simp [Value.ownBlock]; exact ⟨fun e => hpq e.symm, fun e => hqu e.symm⟩)
                have hE6 := ((HS.out.2.2.1 _ HA.out).2.1.drewN q5).keptL h12 (by
                  intro g hg hm
                  simp [Value.ownBlock] at hm
                  rcases hm with e | e
                  · exact HS.out.2.2.2.2.2.2.1 (by rw [hg, e])
                  · exact HS.out.2.2.2.2.2.2.2.1 (by rw [hg, e]))
                refine ⟨⟨true, rfl, .inl ⟨rfl, a9, es, cs', v, ⟨h9, hG6, hE6, h10, h11, ⟨by have := HS.out.2.2.2.2.2.2.2.2.1; omega, HS.out.2.2.2.2.2.2.2.2.2⟩, ((HS.out.2.2.2.1 _ HA.out).drewN _).trans (h12.mono hsub), fun h => absurd h (by rw [hS]; omega), fun _ => HS.out.2.2.2.2.2.1⟩⟩⟩, ?_⟩
                rw [hpos]
                have := h9.pos
                simp only [this]
                omega
            · have hb : (decide (a1 < b.size) && ((bytesOf b)[a1]?.getD 0 == 58)) = false := by
                rw [hS]
                cases h7 : (decide (a1 < S) && ((bytesOf b)[a1]?.getD 0 == 58))
                · rfl
                · exact absurd (by simpa using h7) hcol
              rw [hb] at K2
              have hcol2 : ¬ (a1 < (bytesOf b).length ∧ (bytesOf b)[a1]?.getD 0 = 58) := by rw [bytesOf_len, hS]; exact hcol
              have hlt3 : at_ < (bytesOf b).length := by rw [bytesOf_len, hS]; exact hlt
              have K5 := fun w4 (h : RgTo wr w4 p b a1 (0, 0)) (qn : Nat) => edge_calls (w := w4.drewN qn) (h.1.drewN qn) (by omega) ((K3 w4 h).1.grown (grown_drewN _ qn none) (by simp)) ((K3 w4 h).2.1.drewN qn) hpq hvp hvq hN (by omega) (by have h1 := hs.kept.size; have h2 := h.2.size; exact Nat.le_trans h1 h2)
              cases h5 : edgeP (bytesOf b) N a1 es.getLast? with
              | error f =>
                have hp3 : P = .error f := by rw [hp2, restP_edge hlt3 h1 hcol2 h5]; rfl
                simp only [h5] at K5
                have HS := Lib.hid (And.intro K1 (And.intro K2 (And.intro K3 (And.intro K4 (And.intro K5 hp3)))))
                clear K1 K2 K3 K4 K5 hp3 hp2 hs h1 h5 hcol hb hvp hvq hvu hfew hsep hcol2 hlt3
                go_wp2_with (first
                  | (go_at_call 60; refine HS.out.1.mono ?_; rintro e w4 ⟨rfl, hw4⟩; have HA := Lib.hid hw4; clear hw4; obtain ⟨k0, k1, _⟩ := HF.out.1 _ (HS.out.2.2.2.1 _ HA.out))
                  | (go_at_call 61; refine (HS.out.2.1 _ HA.out).mono ?_; rintro e w5 ⟨rfl, q5, rfl⟩)
                  | (go_at_call 58; refine (HS.out.2.2.2.2.1 _ HA.out _).mono ?_; rintro e w6 ⟨rfl, hw6⟩; have HB := Lib.hid hw6; clear hw6))
                obtain ⟨a9, h9⟩ := HB.out
                exact ⟨⟨false, rfl, .inr ⟨rfl, a9, f, h9.1, HS.out.2.2.2.2.2, ((HS.out.2.2.2.1 _ HA.out).drewN _).trans (Kept.ofGrown h9.2 (by intro k e; cases e; simp))⟩⟩, by rw [hpos]; simp; omega⟩
              | ok x =>
                obtain ⟨x, a2⟩ := x
                obtain ⟨t1, t2, t3, t4, t5, _⟩ := edgeP_inv hN h5
                rw [bytesOf_len, hS] at t4
                have hp3 := hp2.trans (restP_go (es := es) (f := fu) hlt3 h1 hcol2 h5)
                simp only [h5] at K5
                have HS := Lib.hid (And.intro K1 (And.intro K2 (And.intro K3 (And.intro K4 (And.intro K5 (And.intro hp3 (And.intro hvu hfew)))))))
                have HS2 := Lib.hid (And.intro hs.es' hs.kept)
                clear K1 K2 K3 K4 K5 hp3 hp2 hs h1 h5 hcol hb hvp hvq hvu hfew hsep hcol2 hlt3 t1 t2 t3
                go_wp2_with (first
                  | (go_at_call 60; refine HS.out.1.mono ?_; rintro e w4 ⟨rfl, hw4⟩; have HA := Lib.hid hw4; clear hw4; obtain ⟨k0, k1, _⟩ := HF.out.1 _ (HS.out.2.2.2.1 _ HA.out))
                  | (go_at_call 61; refine (HS.out.2.1 _ HA.out).mono ?_; rintro e w5 ⟨rfl, q5, rfl⟩)
                  | (go_at_call 58; refine (HS.out.2.2.2.2.1 _ HA.out _).mono ?_; rintro e w6 ⟨rfl, hw6⟩; have HB := Lib.hid hw6; clear hw6))
                obtain ⟨h9, v', h10, h11, h12, h13⟩ := HB.out
                have hseq := HF.out.2
                have hsz4 : W0.heap.size ≤ (w4.drewN q5).heap.size := Nat.le_trans HS2.out.2.size HA.out.2.size
                have hvb : ∀ g, v.ownBlock = some g → W0.heap.size ≤ g := fun g hg => (HS2.out.1.block_lt hg).2
                have hK6 : Kept W0 w6 [p, q, gu] := ((HS.out.2.2.2.1 _ HA.out).drewN _).transW h13 (by
                  intro k hk
                  simp at hk
                  rcases hk with e | e | e
                  · left; simp [e]
                  · left; simp [e]
                  · right; exact hvb k e)
                have hU6 := ((HS.out.2.2.1 _ HA.out).2.2.drewN q5).keptL h13 (by
                  intro g hg hm
                  cases hg
                  simp at hm
                  rcases hm with e | e | e
                  · exact hpu e
                  · exact hqu e
                  · exact HS.out.2.2.2.2.2.2.1 e)
                have hP6 := HS.out.2.2.2.2.2.1
                refine ⟨⟨true, rfl, .inl ⟨rfl, a2, es ++ [x], _, v', ⟨h9, h10, h11, hU6, by simp, ⟨by have := HS.out.2.2.2.2.2.2.2.1; simp; omega, by have := HS.out.2.2.2.2.2.2.2.1; simp; omega⟩, hK6, fun h => ⟨rfl, fu, by rw [hS]; omega, by rw [List.getLast?_concat]; exact hP6⟩, fun h => by rw [hP6, restP_past (by rw [bytesOf_len]; exact h)]; simp [preP]⟩⟩⟩, ?_⟩
                rw [hpos]
                have := h9.pos
                simp only [this]
                omega
        · have hPf := hs.stop (by rw [hS]; omega)
          obtain ⟨av, cv, hv⟩ := hs.es'.any_form
          obtain ⟨L, hL⟩ : ∃ L, es.length = L := ⟨_, rfl⟩
          rw [hL] at hv
          subst hv
          have hk := hs.kept
          have hgb := hs.gb
          obtain ⟨r2, r3, r4, r5⟩ := zres_cells (HF.out.1 _ hk).2.2.1
          obtain ⟨s1, s2, s3⟩ := zflt_cells (HF.out.1 _ hk).2.2.2.1
          have c0 := hgb.c0
          have c1 := hgb.c1
          have c2 := hgb.c2
          have fr0 := r5 0
          have fr1 := r5 1
          have fr2 := r5 2
          have fs0 := s3 0
          have fs1 := s3 1
          have HR := Lib.hid (And.intro hPf (And.intro (HF.out.1 _ hk).2.2.2.2 (And.intro (HF.out.1 _ hk).2.2.1 (And.intro (HF.out.1 _ hk).2.2.2.1 (And.intro hs.es' (And.intro hs.cs' (And.intro hs.len (And.intro hL hs.few.2))))))))
          have hqD : q ≠ D := by omega
          have hqD1 : q ≠ D + 1 := by omega
          have hge : (S : Int) ≤ (at_ : Int) := by omega
          have hnl : ¬ (at_ : Int) < (S : Int) := by omega
          have hsep2 := Lib.hid hsep
          clear hPf hk hgb r5 s3 hs hL hpos hsep
          go_wp2
          obtain ⟨W, hW, x0, x1, x2, x3, x4, x5, x6⟩ := parse_out (.int .i64 (N : Int)) (.slice av L cv) (.slice (some ⟨gu, 0, none⟩) N N) (.int .i64 0) (.int .i64 0) HR.out.2.2.1 HR.out.2.2.2.1
          rw [← hW]
          have h9 := HR.out.1
          have hs9 := hsep2.out
          have hE := HR.out.2.2.2.2.1
          have hU := HR.out.2.2.2.2.2.1
          have hEW : OwnE W W0.heap.size 69 (.slice av L cv) es := ownsRow_block hE fun g hg => x6 g (by have := (hE.block_lt hg).2; omega) (by have := (hE.block_lt hg).2; omega)
          have hUW : Own W 0 (.slice (some ⟨gu, 0, none⟩) N N) 3 (ints cs) := ownsRow_block hU fun g hg => by cases hg; exact x6 gu (by omega) (by omega)
          refine bodyPost_ret (v := .tuple #[.agg #[.int .i64 (N : Int), .slice av L cv, .slice (some ⟨gu, 0, none⟩) N N], .agg #[.int .i64 0, .int .i64 0]]) (by simp [results, Tryz.results14, go_sem, x0, x1, x2, x3, x4]) rfl ?_
          rw [h9]
          have hl1 : es.length = L := HR.out.2.2.2.2.2.2.2.1
          have hl2 : es.length ≤ 20000 := HR.out.2.2.2.2.2.2.2.2
          have hl3 : cs.length = N := HR.out.2.2.2.2.2.2.1
          have hDW : D ≤ W0.heap.size := by omega
          have hUD : Own W D (.slice (some ⟨gu, 0, none⟩) N N) 3 (ints cs) := hUW.raise rfl (by omega)
          refine ⟨av, cv, some ⟨gu, 0, none⟩, N, by rw [hl1, hl3], ?_, ?_, hl2, by rw [hl3]; exact hN, by rw [hD]; exact HR.out.2.1.trans x5⟩
          · rw [hD]; simp only; rw [hl1]; exact hEW.mono hDW
          · rw [hD]; simp only; rw [hl3]; exact hUD
      · obtain ⟨r1, r2, r3, r4⟩ := zres_cells (HF.out.1 _ hk).2.2.1
        obtain ⟨s1, s2, s3⟩ := zflt_cells (HF.out.1 _ hk).2.2.2.1
        have c2 := hr.c2
        have c3 := hr.c3
        have fr0 := r4 0
        have fr1 := r4 1
        have fr2 := r4 2
        have fs0 := s3 0
        have fs1 := s3 1
        have HR := Lib.hid (And.intro hPf (And.intro (HF.out.1 _ hk).2.2.2.2 (And.intro (HF.out.1 _ hk).2.2.1 (HF.out.1 _ hk).2.2.2.1)))
        have hpD := HF.out.2.2.2.2
        have hpne : p ≠ D := by omega
        have hpne2 : p ≠ D + 1 := by omega
        clear hr hPf hk r4 s3
        go_wp2
        go_region
        all_goals
          go_wp2
          obtain ⟨W, hW, w0, w1, w2, w3, w4, w5, _⟩ := parse_out (.int .i64 0) (.slice none 0 0) (.slice none 0 0) (.int .i64 f.1) (.int .i64 (f.2 : Int)) HR.out.2.2.1 HR.out.2.2.2
          rw [← hW]
          have h9 := HR.out.1
          subst h9
          exact bodyPost_ret (v := .tuple #[zeroGr, .agg #[.int .i64 f.1, .int .i64 (f.2 : Int)]]) (by simp [results, Tryz.results14, go_sem, zeroGr, w0, w1, w2, w3, w4]) rfl ⟨rfl, by rw [hD]; exact (HR.out.2.1.trans w5).drew⟩
end Go.Proofs.YtifkieopaoooeaaGreatDoor
