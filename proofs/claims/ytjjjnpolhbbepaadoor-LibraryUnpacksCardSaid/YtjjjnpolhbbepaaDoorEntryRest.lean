/- Reading an entry: behind its degree and the number of its generators. -/
import Derived.Test.YtjjjnpolhbbepaaDoorEntryB
set_option linter.unusedSimpArgs false
set_option linter.unusedVariables false
namespace Go.Proofs.YtjjjnpolhbbepaaDoor
open Go.RowKit
open Plain
def headR : Code → Option Nat
  | .region n _ _ => some n
  | .seq a _ => headR a
  | .block _ c => headR c
  | .scope c => headR c
  | _ => none
def fromR (k : Nat) : Code → Option Code
  | .seq a b => if headR a = some k then some (.seq a b) else match fromR k a with
    | some c => some c
    | none => fromR k b
  | .loop c => fromR k c
  | .block _ c => fromR k c
  | .scope c => fromR k c
  | .cond _ a b => match fromR k a with
    | some c => some c
    | none => fromR k b
  | _ => none
noncomputable def code17 : Code := ((Tryd.f36.body.bind (fromR 17)).getD .skip)
/-- Between two generators. -/
structure GenSt (w wr : World) (p X : Nat) (a : Option Addr) (c : Nat) (xs : List Nat) (A3 d m j : Nat) (nm : ByteArray) (v : Value) (gs : List (List Int)) : Prop where
  s2 : S2 w wr p X a c xs A3 (j * totW d) (.string nm) (.int .i64 (d : Int)) v
  len : gs.length = j
  own : OwnGens wr (X + 1) v gs
  rows : ∀ g ∈ gs, g.length = d
  eq : gensF (bitAt xs A3) d 0 m = (gensF (bitAt xs A3) d (j * totW d) (m - j)).map (gs ++ ·)
theorem OwnGens.form {w : World} {B : Nat} {v : Value} {gs : List (List Int)} (h : OwnGens w B v gs) : ∃ a c, v = .slice a gs.length c := by
  obtain ⟨cs, h1, h2⟩ := h
  rcases h1.2 with ⟨rfl, h0⟩ | ⟨g, cap, cur, rfl, _⟩
  · exact ⟨none, 0, by rw [← h2.1]; rw [h0]⟩
  · exact ⟨_, _, by rw [← h2.1]⟩
def genM (m X : Nat) (w : World) : Nat := match w.cell? ⟨X, 2, none⟩ with
  | some (.slice _ n _) => m - n
  | _ => 0
theorem genM_eq {m X n c : Nat} {a : Option Addr} {w : World} (h : w.cell? ⟨X, 2, none⟩ = some (.slice a n c)) : genM m X w = m - n := by unfold genM; rw [h]
/-- Within a generator: what is left of the points, and the images so far. -/
structure DigSt (w wg wr : World) (p X : Nat) (a : Option Addr) (c : Nat) (xs : List Nat) (A3 d p0 i gl capl : Nat) (nm : ByteArray) (v vp : Value) (L P : List Int) : Prop where
  s2 : S2 w wr p X a c xs A3 (p0 + totP d i) (.string nm) (.int .i64 (d : Int)) v
  left : Own wr wg.heap.size (.slice (some ⟨gl, 0, none⟩) (d - i) capl) 3 (ints L)
  perm : Own wr wg.heap.size vp 3 (ints P)
  ne : vp.ownBlock ≠ some gl
  ll : L.length = d - i
  pl : P.length = i
  gr : wg.grownBy wr (some p)
  le : X < wg.heap.size
  eq : permL (base d) (digF (bitAt xs A3) p0 d) = (permL L (digF (bitAt xs A3) (p0 + totP d i) (d - i))).map (P ++ ·)
theorem DigSt.read {w wg wr w7 : World} {p X : Nat} {a : Option Addr} {c : Nat} {xs : List Nat} {A3 d p0 i gl capl bit2 : Nat} {nm : ByteArray} {v vp : Value} {L P : List Int}
    (h : DigSt w wg wr p X a c xs A3 d p0 i gl capl nm v vp L P) (k : RdTo wr w7 p a c xs A3 bit2) :
    Own w7 wg.heap.size (.slice (some ⟨gl, 0, none⟩) (d - i) capl) 3 (ints L) ∧ Own w7 wg.heap.size vp 3 (ints P) ∧ S2 w w7 p X a c xs A3 bit2 (.string nm) (.int .i64 (d : Int)) v ∧ wg.grownBy w7 (some p) := by
  have hX := h.s2.le
  have hp := h.s2.s1.pl
  have hle := h.le
  have hne : ∀ (u : Value) (zs : List Value), Own wr wg.heap.size u 3 zs → u.ownBlock = none ∨ u.ownBlock ≠ some p := fun u zs hu => by
    rcases hu.blk with e | ⟨g, _, e, hB, _⟩
    · exact .inl e
    · right; rw [e]; intro e2; cases e2; omega
  exact ⟨h.left.kept k.2 (hne _ _ h.left), h.perm.kept k.2 (hne _ _ h.perm), h.s2.to k, h.gr.trans k.2⟩
theorem S2.own {w wr w2 : World} {p X : Nat} {a : Option Addr} {c : Nat} {xs : List Nat} {at_ bit : Nat} {u0 u1 u2 : Value} (h : S2 w wr p X a c xs at_ bit u0 u1 u2) {row : Option Nat} (k : wr.grownBy w2 row) (hr : ∀ g, row = some g → X < g) : S2 w w2 p X a c xs at_ bit u0 u1 u2 := by
  cases row with
  | none => exact h.grown0 k
  | some g => have := hr g rfl; exact h.other k (by have := h.le; omega) (by omega)
theorem own_ge {w : World} {B : Nat} {v : Value} {e : TypeId} {xs : List Value} (h : Own w B v e xs) : ∀ g, v.ownBlock = some g → B ≤ g := fun g hg => by
  rcases h.blk with e | ⟨g', _, e, hB, _⟩
  · rw [e] at hg; cases hg
  · rw [e] at hg; cases hg; exact hB
theorem own_lt {w : World} {B : Nat} {v : Value} {e : TypeId} {xs : List Value} (h : Own w B v e xs) : ∀ g, v.ownBlock = some g → g < w.heap.size := fun g hg => by
  rcases h.blk with e | ⟨g', _, e, _, hl, _⟩
  · rw [e] at hg; cases hg
  · rw [e] at hg; cases hg; exact hl
theorem DigSt.step {w wg wr w7 w8 w9 : World} {p X : Nat} {a : Option Addr} {c : Nat} {xs : List Nat} {A3 d p0 t gl capl y : Nat} {nm : ByteArray} {v vp v8 : Value} {L P : List Int} {lv : Int}
    (h : DigSt w wg wr p X a c xs A3 d p0 t gl capl nm v vp L P) (ht : t < d) (hto : RdTo wr w7 p a c xs A3 (p0 + totP d (t + 1)))
    (h2 : Own w8 wg.heap.size v8 3 (ints P ++ [.int .i64 lv])) (h3 : w7.grownBy w8 vp.ownBlock) (h4 : v8.ownBlock = vp.ownBlock ∨ ∃ g, v8.ownBlock = some g ∧ w7.heap.size ≤ g)
    (h5 : Own w9 wg.heap.size (.slice (some ⟨gl, 0, none⟩) (d - t - 1) capl) 3 (ints (L.eraseIdx y))) (h6 : w8.grownBy w9 (some gl)) (hy : y < L.length)
    (he : permL (base d) (digF (bitAt xs A3) p0 d) = (permL (L.eraseIdx y) (digF (bitAt xs A3) (p0 + totP d (t + 1)) (d - (t + 1)))).map ((P ++ [lv]) ++ ·)) :
    DigSt w wg w9 p X a c xs A3 d p0 (t + 1) gl capl nm v v8 (L.eraseIdx y) (P ++ [lv]) := by
  obtain ⟨r1, r2, r3, r4⟩ := h.read hto
  have hgl : wg.heap.size ≤ gl := own_ge r1 gl rfl
  have hgl7 : gl < w7.heap.size := own_lt r1 gl rfl
  have hne8 : v8.ownBlock ≠ some gl := by
    rcases h4 with e | ⟨g, e, hg⟩
    · rw [e]; exact h.ne
    · rw [e]; intro e2; cases e2; omega
  have hX := h.le
  refine ⟨(r3.own h3 (fun g hg => by have := own_ge r2 g hg; omega)).own h6 (fun g hg => by cases hg; omega), ?_, ?_, hne8, ?_, by simp [h.pl], ?_, h.le, he⟩
  · rw [show d - (t + 1) = d - t - 1 by omega]; exact h5
  · have : ints (P ++ [lv]) = ints P ++ [.int .i64 lv] := by simp [ints]
    rw [this]
    exact h2.kept h6 (.inr hne8)
  · rw [List.length_eraseIdx_of_lt hy, h.ll]; omega
  · exact grown_new (grown_new r4 h3 (fun g hg => .inl (own_ge r2 g hg))) h6 (fun g hg => .inl (by cases hg; exact hgl))
theorem gens_own {w w' : World} {B : Nat} {v : Value} {gs : List (List Int)} (h : OwnGens w B v gs) {p : Nat} (hg : w.grownBy w' (some p)) (hp : p < B) : OwnGens w' B v gs := by
  obtain ⟨cs, h1, h2⟩ := h
  have hne : ∀ (u : Value) (e : TypeId) (zs : List Value), Own w B u e zs → u.ownBlock = none ∨ u.ownBlock ≠ some p := fun u e zs hu => by
    rcases hu.blk with e | ⟨g, _, e, hB, _⟩
    · exact .inl e
    · right; rw [e]; intro e2; cases e2; omega
  exact ⟨cs, h1.kept hg (hne _ _ _ h1), h2.kept hg (fun u xs hu => hne _ _ _ hu)⟩
theorem gens_app {w w' : World} {B : Nat} {v v' vp : Value} {cs : List Value} {gs : List (List Int)} {P : List Int} (h1 : Own w B v 57 cs) (h2 : OwnRows w B 3 cs gs) (hp : Own w B vp 3 (ints P)) (hv : Own w' B v' 57 (cs ++ [vp])) (hg : w.grownBy w' v.ownBlock) :
    OwnGens w' B v' (gs ++ [P]) := by
  have hk : ∀ (u : Value) (zs : List Value), Own w B u 3 zs → u.ownBlock = none ∨ u.ownBlock ≠ v.ownBlock := fun u zs hu => hu.ne_type h1 (by decide)
  refine ⟨_, hv, (h2.kept hg (fun u xs hu => hk u _ hu)).app (OwnRows.one (hp.kept hg (hk _ _ hp)))⟩
theorem base_succ (i : Nat) : base (i + 1) = base i ++ [(i : Int)] := by simp [base, List.range_succ]
theorem digF_step (f : Nat → Nat) (p0 d i : Nat) (h : i < d) : digF f (p0 + totP d i) (d - i) = readF f (p0 + totP d i) (wid (d - i)) :: digF f (p0 + totP d (i + 1)) (d - (i + 1)) := by
  obtain ⟨r, hr⟩ : ∃ r, d - i = r + 1 := ⟨d - i - 1, by omega⟩
  rw [hr, digF, totP, hr, Nat.add_assoc, show d - (i + 1) = r by omega]
theorem bitAt_lt (xs : List Nat) (a p : Nat) : bitAt xs a p < 2 := Nat.mod_lt _ (by omega)
theorem bad_gens {w wg wr : World} {p X : Nat} {a : Option Addr} {c : Nat} {xs : List Nat} {A3 d m j t gl capl y : Nat} {nm : ByteArray} {v v' vp : Value} {gs : List (List Int)} {L P : List Int} {rest : List Nat}
    (hG : GenSt w wg p X a c xs A3 d m j nm v gs) (hj : j < m) (hD : DigSt w wg wr p X a c xs A3 d (j * totW d) t gl capl nm v' vp L P) (hds : digF (bitAt xs A3) (j * totW d + totP d t) (d - t) = y :: rest) (hy : d - t ≤ y) :
    gensF (bitAt xs A3) d 0 m = none := by
  obtain ⟨r, hr⟩ : ∃ r, m - j = r + 1 := ⟨m - j - 1, by omega⟩
  have h1 : permL (base d) (digF (bitAt xs A3) (j * totW d) d) = none := by
    rw [hD.eq, hds, permL, List.getElem?_eq_none (by rw [hD.ll]; exact hy)]; rfl
  rw [hG.eq, hr, gensF, h1]; rfl
theorem good_gens {w wg wr : World} {p X : Nat} {a : Option Addr} {c : Nat} {xs : List Nat} {A3 d m j gl capl : Nat} {nm : ByteArray} {v v' vp : Value} {gs : List (List Int)} {L P : List Int}
    (hG : GenSt w wg p X a c xs A3 d m j nm v gs) (hj : j < m) (hD : DigSt w wg wr p X a c xs A3 d (j * totW d) d gl capl nm v' vp L P) :
    gensF (bitAt xs A3) d 0 m = (gensF (bitAt xs A3) d ((j + 1) * totW d) (m - (j + 1))).map ((gs ++ [P]) ++ ·) := by
  obtain ⟨r, hr⟩ : ∃ r, m - j = r + 1 := ⟨m - j - 1, by omega⟩
  have h1 : permL (base d) (digF (bitAt xs A3) (j * totW d) d) = some P := by
    rw [hD.eq, Nat.sub_self, digF, permL]; simp
  rw [hG.eq, hr, gensF, h1]
  simp only
  rw [show m - (j + 1) = r by omega, show (j + 1) * totW d = j * totW d + totW d by rw [Nat.add_mul, Nat.one_mul]]
  cases gensF (bitAt xs A3) d (j * totW d + totW d) r <;> simp
theorem genSt_next {w wg wr w5 : World} {p X : Nat} {a : Option Addr} {c : Nat} {xs : List Nat} {A3 d m j gl capl : Nat} {nm : ByteArray} {v v' vp : Value} {gs : List (List Int)} {L P : List Int}
    (hG : GenSt w wg p X a c xs A3 d m j nm v gs) (hj : j < m) (hD : DigSt w wg wr p X a c xs A3 d (j * totW d) d gl capl nm v vp L P)
    (hv : OwnGens w5 (X + 1) v' (gs ++ [P])) (hg : wr.grownBy w5 v.ownBlock) (hrow : ∀ g, v.ownBlock = some g → X < g) :
    GenSt w (w5.setCell ⟨X, 2, none⟩ v') p X a c xs A3 d m (j + 1) nm v' (gs ++ [P]) := by
  have hs := hD.s2
  rw [totP_all, show j * totW d + totW d = (j + 1) * totW d by rw [Nat.add_mul, Nat.one_mul]] at hs
  refine ⟨(hs.own hg hrow).setX2 v', by simp [hG.len], gens_own hv (grown_put 2 v') (by omega), ?_, good_gens hG hj hD⟩
  intro g hg'
  rcases List.mem_append.1 hg' with h | h
  · exact hG.rows g h
  · simp at h; rw [h]; exact hD.pl
theorem dig_next {f : Nat → Nat} {d p0 t y : Nat} {L P : List Int} {rest : List Nat} {lv : Int} (he : permL (base d) (digF f p0 d) = (permL L (digF f (p0 + totP d t) (d - t))).map (P ++ ·))
    (hds : digF f (p0 + totP d t) (d - t) = y :: rest) (hy : L[y]? = some lv) : permL (base d) (digF f p0 d) = (permL (L.eraseIdx y) rest).map ((P ++ [lv]) ++ ·) := by
  rw [he, hds, permL, hy]
  simp only
  cases permL (L.eraseIdx y) rest <;> simp
theorem S1.done {w W : World} {p : Nat} {a : Option Addr} {c : Nat} {xs : List Nat} {at_ bit : Nat} (h : S1 w W p a c xs at_ bit) (u0 u1 u2 : Value) :
    ((((W.setCell ⟨w.heap.size, 0, none⟩ u0).setCell ⟨w.heap.size, 1, none⟩ u1).setCell ⟨w.heap.size, 2, none⟩ u2).cell? ⟨w.heap.size, 0, none⟩ = some u0) ∧
    ((((W.setCell ⟨w.heap.size, 0, none⟩ u0).setCell ⟨w.heap.size, 1, none⟩ u1).setCell ⟨w.heap.size, 2, none⟩ u2).cell? ⟨w.heap.size, 1, none⟩ = some u1) ∧
    ((((W.setCell ⟨w.heap.size, 0, none⟩ u0).setCell ⟨w.heap.size, 1, none⟩ u1).setCell ⟨w.heap.size, 2, none⟩ u2).cell? ⟨w.heap.size, 2, none⟩ = some u2) ∧
    W.grownBy (((W.setCell ⟨w.heap.size, 0, none⟩ u0).setCell ⟨w.heap.size, 1, none⟩ u1).setCell ⟨w.heap.size, 2, none⟩ u2) (some w.heap.size) := by
  have n01 : (⟨w.heap.size, 0, none⟩ : Addr) ≠ ⟨w.heap.size, 1, none⟩ := by intro e; simp at e
  have n02 : (⟨w.heap.size, 0, none⟩ : Addr) ≠ ⟨w.heap.size, 2, none⟩ := by intro e; simp at e
  have n12 : (⟨w.heap.size, 1, none⟩ : Addr) ≠ ⟨w.heap.size, 2, none⟩ := by intro e; simp at e
  have c0 := World.cell?_setCell_same W _ u0 h.bx.a0
  have c1 : (W.setCell ⟨w.heap.size, 0, none⟩ u0).cell? ⟨w.heap.size, 1, none⟩ = _ := (World.cell?_setCell_other _ _ _ _ n01).trans h.bx.a1
  have c2 : (W.setCell ⟨w.heap.size, 0, none⟩ u0).cell? ⟨w.heap.size, 2, none⟩ = _ := (World.cell?_setCell_other _ _ _ _ n02).trans h.bx.a2
  have e2 : ((W.setCell ⟨w.heap.size, 0, none⟩ u0).setCell ⟨w.heap.size, 1, none⟩ u1).cell? ⟨w.heap.size, 2, none⟩ = _ := (World.cell?_setCell_other _ _ _ _ n12).trans c2
  refine ⟨?_, ?_, World.cell?_setCell_same _ _ _ e2, ?_⟩
  · exact (World.cell?_setCell_other _ _ _ _ (Ne.symm n02)).trans ((World.cell?_setCell_other _ _ _ _ (Ne.symm n01)).trans c0)
  · exact (World.cell?_setCell_other _ _ _ _ (Ne.symm n12)).trans (World.cell?_setCell_same _ _ _ c1)
  · exact ((grown_store (g := w.heap.size) (o := 0) u0).trans (grown_store (g := w.heap.size) (o := 1) u1)).trans (grown_store (g := w.heap.size) (o := 2) u2)
theorem EntRes.good {w W w' : World} {p : Nat} {a : Option Addr} {c : Nat} {xs : List Nat} {r : Except Int (Ent × Nat)} {nm : ByteArray} {d at2 bit B : Nat} {v : Value} {gs : List (List Int)} (hr : r = .ok (⟨nm, (d : Nat), gs⟩, at2))
    (h : S1 w W p a c xs at2 bit) (ho : OwnGens W B v gs) (hB : w.heap.size < B) (hg : W.grownBy w' (some w.heap.size)) :
    EntRes w p a c xs r (.returned (.tuple #[.agg #[.string nm, .int .i64 (d : Int), v], .int .i64 0])) w' := by
  subst hr
  have ho' := gens_own ho hg hB
  refine ⟨grown_new h.gr hg (fun g e => .inl (by cases e; exact Nat.le_refl _)), v, bit, rfl, ?_, h.rd.grown hg (by have := h.pl; omega) (fun b o e => by have := h.ra b o e; omega)⟩
  obtain ⟨cs, h1, h2⟩ := ho'
  exact ⟨cs, h1.mono (by omega), h2.mono (by omega)⟩
set_option maxRecDepth 1000000 in
set_option maxHeartbeats 8000000 in
theorem ent_rest {w wc : World} {p X A3 bit N c d m bb oo : Nat} {xs : List Nat} {nm lastS : ByteArray} {fl : Bool} {r : Except Int (Ent × Nat)}
    (hS : S2 w wc p X (some ⟨bb, oo, none⟩) c xs A3 bit (.string nm) (.int .i64 (d : Int)) (.slice none 0 0)) (hN : xs.length = N) (hl : N ≤ 500000) (hcap : N ≤ c) (hd1 : 1 ≤ d) (hd64 : d ≤ 64) (hm16 : m ≤ 16) (hA3 : A3 ≤ N) (hr : r = entT xs A3 nm d m)
    (u3 u4 u5 u8 u9 u12 u14 u15 u16 u17 u18 u19 u20 u21 u22 u23 u24 u25 u26 u27 u28 u29 u30 u31 u32 u33 u34 u35 u36 u37 u38 u39 u40 u41 u42 u43 u44 u45 u46 u47 u48 u49 u50 u51 u52 u53 u54 u55 u56 u57 u58 u59 u60 u61 u62 u63 u64 u65 u66 u67 u68 u69 u70 u71 u72 u73 u74 u75 u76 u77 u78 u79 u80 u81 u82 u83 u84 u85 u86 u87 u88 u89 u90 u91 u92 u93 u94 u95 u96 u97 u98 u99 u100 u101 u102 u103 u104 u105 u106 u107 u108 u109 u110 u111 u112 u113 u114 u115 u116 u117 u118 u119 u120 u121 u122 u123 u124 u125 u126 u127 u128 u129 u130 u131 u132 u133 u134 u135 u136 u137 u138 u139 u140 u141 u142 u143 u144 u145 u146 u147 u148 u149 u150 u151 u152 u153 u154 u155 u156 u157 u158 u159 u160 u161 u162 u163 u164 u165 u166 u167 u168 u169 u170 u171 u172 u173 u174 u175 u176 u177 u178 u179 u180 u181 u182 u183 u184 u185 u186 u187 u188 u189 u190 u191 u192 u193 u194 u195 u196 u197 u198 u199 u200 u201 u202 u203 u204 u205 u206 u207 u208 u209 : Value) :
    Code.wp Tryd.prog code17 (Exit.noGoto (bodyPost Tryd.prog Tryd.f36 (EntRes w p (some ⟨bb, oo, none⟩) c xs r))) ⟨#[.pointer (some ⟨p, 0, none⟩), .string lastS, .bool fl, u3, u4, u5, .pointer (some ⟨w.heap.size, 0, none⟩), .int .i64 0, u8, u9, .pointer (some ⟨X, 0, none⟩), .int .i64 (d : Int), u12, .int .i64 (m : Int), u14, u15, u16, u17, u18, u19, u20, u21, u22, u23, u24, u25, u26, u27, u28, u29, u30, u31, u32, u33, u34, u35, u36, u37, u38, u39, u40, u41, u42, u43, u44, u45, u46, u47, u48, u49, u50, u51, u52, u53, u54, u55, u56, u57, u58, u59, u60, u61, u62, u63, u64, u65, u66, u67, u68, u69, u70, u71, u72, u73, u74, u75, u76, u77, u78, u79, u80, u81, u82, u83, u84, u85, u86, u87, u88, u89, u90, u91, u92, u93, u94, u95, u96, u97, u98, u99, u100, u101, u102, u103, u104, u105, u106, u107, u108, u109, u110, u111, u112, u113, u114, u115, u116, u117, u118, u119, u120, u121, u122, u123, u124, u125, u126, u127, u128, u129, u130, u131, u132, u133, u134, u135, u136, u137, u138, u139, u140, u141, u142, u143, u144, u145, u146, u147, u148, u149, u150, u151, u152, u153, u154, u155, u156, u157, u158, u159, u160, u161, u162, u163, u164, u165, u166, u167, u168, u169, u170, u171, u172, u173, u174, u175, u176, u177, u178, u179, u180, u181, u182, u183, u184, u185, u186, u187, u188, u189, u190, u191, u192, u193, u194, u195, u196, u197, u198, u199, u200, u201, u202, u203, u204, u205, u206, u207, u208, u209], []⟩ wc := by
  conv => arg 2; whnf
  have H := Lib.hid (And.intro hN hr)
  have b0 := hS.s1.bx.a0
  have r0 := hS.s1.rd.c0
  have x0 := hS.bx.a0
  have y1 := hS.bx.a1
  have v1 := hS.bx.fr 1
  have HS := Lib.hid hS
  rw [hN] at r0
  clear hS hN hr
  go_wp2
  have hS := HS.out
  clear b0 r0 x0 y1 v1 HS
  obtain ⟨wD, hwD⟩ : ∃ wD, wD = wc := ⟨_, rfl⟩
  rw [← hwD] at hS ⊢
  clear hwD
  have b0 := hS.s1.bx.a0; have b1 := hS.s1.bx.a1; have b2 := hS.s1.bx.a2; have f0 := hS.s1.bx.fr 0; have f1 := hS.s1.bx.fr 1; have f2 := hS.s1.bx.fr 2; have r0 := hS.s1.rd.c0; have r1 := hS.s1.rd.c1; have r2 := hS.s1.rd.c2; have q1 := hS.s1.rd.fr 1; have q2 := hS.s1.rd.fr 2; have x0 := hS.bx.a0; have y1 := hS.bx.a1; have y2 := hS.bx.a2; have v0 := hS.bx.fr 0; have v1 := hS.bx.fr 1; have v2 := hS.bx.fr 2; rw [H.out.1] at r0
  have HS := Lib.hid hS
  clear hS
  have htw := totW_le d hd64
  have hmul : m * totW d ≤ 16 * 400 := Nat.mul_le_mul hm16 htw
  go_loop [14, 111] (fun t i => ∃ k : Nat, k ≤ d ∧ i = .int .i64 (k : Int) ∧ t = .int .i64 ((m * totP d k : Nat) : Int)) (fun _ i => d - (intOf i).toNat)
  case atStart => exact ⟨0, Nat.zero_le _, rfl, rfl⟩
  case round =>
    obtain ⟨k, hk, rfl, rfl⟩ := hrel
    by_cases hkd : k < d
    · have hz6 := wid_le (d - k) (by omega)
      obtain ⟨z, hz⟩ : ∃ z, wid (d - k) = z := ⟨_, rfl⟩
      have hp := totP_eq d k hk
      have hpl : totP d k ≤ 400 := by omega
      have hml : m * totP d k ≤ 16 * 400 := Nat.mul_le_mul hm16 hpl
      have hmz : m * z ≤ 16 * 6 := Nat.mul_le_mul hm16 (by omega)
      have hst : m * totP d (k + 1) = m * totP d k + m * z := by rw [totP, hz, Nat.mul_add]
      have e1 : (m : Int) * (z : Int) = ((m * z : Nat) : Int) := by simp
      obtain ⟨y, hy⟩ : ∃ y, m * z = y := ⟨_, rfl⟩
      obtain ⟨T, hT⟩ : ∃ T, m * totP d k = T := ⟨_, rfl⟩
      rw [hy] at e1 hst hmz
      rw [hT] at hst hml ⊢
      have HST := Lib.hid (And.intro hst hz)
      clear hst hT hy hp hz hpl htw hmul
      go_wp2_with (go_at_call 26; refine (width_calls d k _ hkd hd64).mono ?_; rintro e w' ⟨rfl, rfl⟩; rw [HST.out.2])
      go_round
      case rel => exact ⟨k + 1, by omega, by go_num, by rw [HST.out.1]; go_num⟩
      case measure => simp [intOf]; omega
    · obtain rfl : k = d := by omega
      rw [totP_all]
      obtain ⟨T, hT⟩ : ∃ T, m * totW k = T := ⟨_, rfl⟩
      rw [hT] at hmul ⊢
      obtain ⟨q, hq⟩ : ∃ q, (T + 7) / 8 = q := ⟨_, rfl⟩
      have e1 : ((T : Int) + 7).tdiv 8 = (q : Int) := by rw [Int.tdiv_eq_ediv_of_nonneg (by omega)]; omega
      have e3 : ((T : Int) + 7) / 8 = (q : Int) := by omega
      have e5 : IntKind.i64.wrap ((T : Int) + 7) = (T : Int) + 7 := IntWalk.i64_in _ (by omega)
      have e6 : IntKind.i64.wrap ((A3 : Int) + q) = (A3 : Int) + q := IntWalk.i64_in _ (by omega)
      have HT := Lib.hid (And.intro hT hq)
      clear hT hq htw
      by_cases hbig : N < A3 + q
      · have hR : r = .error 18 := by rw [H.out.2, entT, HT.out.1, HT.out.2, if_pos (by rw [H.out.1]; exact hbig)]
        have HR := Lib.hid hR
        have hbi : (N : Int) < (A3 : Int) + q := by omega
        clear hR
        go_wp2
        go_quiet (fail)
        go_wp2
        obtain ⟨W, hW⟩ : ∃ W, W = wD.drewN nq := ⟨_, rfl⟩
        rw [← hW]
        rw [Exit.noGoto_ret]
        have hS := HS.out.s1.drewN nq
        rw [← hW] at hS
        obtain ⟨d0, d1, d2, hg⟩ := hS.failed
        exact bodyPost_ret (v := .tuple #[.agg #[.string ⟨#[]⟩, .int .i64 0, .slice none 0 0], .int .i64 18]) (by simp [results, Tryd.results36, go_sem, d0, d1, d2]) rfl (EntRes.bad HR.out hg)
      · have hR : r = entU (bitAt xs A3) k m T (A3 + q) nm := by rw [H.out.2, entT, HT.out.1, HT.out.2, if_neg (by rw [H.out.1]; exact hbig)]
        have HR := Lib.hid hR
        have hbi : (A3 : Int) + q ≤ (N : Int) := by omega
        clear hR
        go_wp2
        go_quiet (fail)
        go_wp2
        go_step3
        go_wp2
        have hS := (HS.out.drewN nq).set2 0
        rw [show ((0 : Nat) : Int) = 0 from rfl] at hS
        clear b0 b1 b2 f0 f1 f2 r0 r1 r2 q1 q2 x0 y1 y2 v0 v1 v2 HS e1 e3 e5 e6
        generalize (wD.drewN nq).setCell ⟨p, 2, none⟩ (.int .i64 0) = wE at *
        have hG : GenSt w wE p X (some ⟨bb, oo, none⟩) c xs A3 k m 0 nm (.slice none 0 0) [] :=
          ⟨by rw [Nat.zero_mul]; exact hS, rfl, ⟨[], Own.nil _ _ _, OwnRows.nil _ _ _⟩, by simp, by simp⟩
        have HG0 := Lib.hid hG
        clear hG hS
        go_loopw [16] (fun _ wr => ∃ (j : Nat) (v : Value) (gs : List (List Int)), j ≤ m ∧ GenSt w wr p X (some ⟨bb, oo, none⟩) c xs A3 k m j nm v gs) (fun _ wr => genM m X wr)
        case atStart => exact ⟨0, _, [], Nat.zero_le _, HG0.out⟩
        case round =>
          obtain ⟨j, v, gs, hj, hG⟩ := hrel
          obtain ⟨wg, rfl⟩ : ∃ wg, wg = wr := ⟨_, rfl⟩
          obtain ⟨va, vc, rfl⟩ := hG.own.form
          rw [hG.len] at hG
          have hS := hG.s2
          have b0 := hS.s1.bx.a0; have b1 := hS.s1.bx.a1; have b2 := hS.s1.bx.a2; have f0 := hS.s1.bx.fr 0; have f1 := hS.s1.bx.fr 1; have f2 := hS.s1.bx.fr 2; have r0 := hS.s1.rd.c0; have r1 := hS.s1.rd.c1; have r2 := hS.s1.rd.c2; have q1 := hS.s1.rd.fr 1; have q2 := hS.s1.rd.fr 2; have x0 := hS.bx.a0; have y1 := hS.bx.a1; have y2 := hS.bx.a2; have v0 := hS.bx.fr 0; have v1 := hS.bx.fr 1; have v2 := hS.bx.fr 2; rw [H.out.1] at r0
          have lX := hS.le
          have pX := hS.s1.pl
          have kX := hS.bx.lt
          have HG := Lib.hid hG
          clear hG hS
          by_cases hjm : j < m
          · have hjm2 : ((j : Int) == m) = false := by simp; omega
            have hxg : X < wg.heap.size := kX
            clear b0 b1 b2 f0 f1 f2 r0 r1 r2 q1 q2 x0 y1 v0 v1 v2
            go_wp2
            obtain ⟨i3, hi3, hz3, hs3, hb3⟩ := info_parts Tryd.info3
            have I3 := Lib.hid (And.intro hi3 (And.intro hz3 (And.intro hs3 hb3)))
            clear hi3 hz3 hs3 hb3
            go_loopw [16, 147] (fun u16 u147 wr => ∃ (i : Nat), i ≤ k ∧ u147 = .int .i64 (i : Int) ∧ Own wr wg.heap.size u16 3 (ints (base i)) ∧ wg.grownBy wr none) (fun _ u147 _ => k - (intOf u147).toNat)
            case atStart => exact ⟨0, Nat.zero_le _, rfl, Own.nil _ _ _, World.grownBy.refl _ _⟩
            case round =>
              obtain ⟨i, hi, rfl, ho, hgr⟩ := hrel
              by_cases hik : i < k
              · have hbl : (ints (base i)).length < 1099511627776 := by rw [ints_len, base_len]; omega
                have hwB : wg.heap.size ≤ wr.heap.size := hgr.size
                have HO := Lib.hid (And.intro ho (And.intro hgr hbl))
                clear ho hgr hbl
                go_wp2_with (at_builtin; refine app1 rfl (.tmp 150) (.tmp 152) 56 3 rfl i3 (.int .i64 0) 8 Tryd.underlying56 I3.out.1 I3.out.2.1 I3.out.2.2.1 I3.out.2.2.2 rfl (by omega) wg.heap.size (.int .i64 (i : Int)) u16 (ints (base i)) rfl HO.out.1 rfl rfl HO.out.2.2 hwB ?_; intro v' w' h2 h3 h4; have H9 := Lib.hid (And.intro h2 (And.intro h3 h4)); clear h2 h3 h4)
                refine ⟨⟨i + 1, by omega, by go_num, ?_, ?_⟩, by simp [intOf]; omega⟩
                · rw [base_succ]
                  have := H9.out.1
                  simpa [ints] using this
                · exact grown_new HO.out.2.1 H9.out.2.1 (fun g hg => by
                    rcases HO.out.1.blk with e | ⟨g', _, e, hB, _⟩
                    · rw [e] at hg; cases hg
                    · rw [e] at hg; cases hg; exact .inl hB)
              · obtain rfl : i = k := by omega
                obtain ⟨gl, capl, rfl, hgl, hgl2, hcl, hcl2⟩ := ho.form (by rw [ints_len, base_len]; omega)
                rw [ints_len, base_len] at ho hcl
                obtain ⟨p0, hp0⟩ : ∃ p0, j * totW i = p0 := ⟨_, rfl⟩
                have hD : DigSt w wg wr p X (some ⟨bb, oo, none⟩) c xs A3 i p0 0 gl capl nm (.slice va j vc) (.slice none 0 0) (base i) [] :=
                  ⟨by rw [← hp0]; exact HG.out.s2.grown0 hgr, ho, Own.nil _ _ _, by simp [Value.ownBlock], base_len i, rfl, ⟨hgr.os, hgr.tape, hgr.output, hgr.size, fun b hb _ => hgr.block b hb (by simp)⟩, hxg, by simp [totP]⟩
                have hgrp := hgr
                have HD0 := Lib.hid (And.intro hD (And.intro hgr hp0))
                clear hD ho hgr hp0 hgl hcl hcl2 hgrp
                go_wp2
                go_loopw [16, 18, 156] (fun u16 u18 u156 wr => ∃ (t capl' : Nat) (L P : List Int), t ≤ i ∧ u156 = .int .i64 (t : Int) ∧ u16 = .slice (some ⟨gl, 0, none⟩) (i - t) capl ∧ DigSt w wg wr p X (some ⟨bb, oo, none⟩) c xs A3 i p0 t gl capl nm (.slice va j vc) u18 L P) (fun _ _ u156 _ => i - (intOf u156).toNat)
                case atStart => exact ⟨0, 0, _, _, Nat.zero_le _, rfl, by rw [ints_len, base_len]; rfl, HD0.out.1⟩
                case round =>
                  obtain ⟨t, _, L, P, ht, rfl, rfl, hD⟩ := hrel
                  by_cases hti : t < i
                  · have hz6 := wid_le (i - t) (by omega)
                    have hp := totP_eq i t ht
                    have hp1 := totP_eq i (t + 1) (by omega)
                    have hds := digF_step (bitAt xs A3) p0 i t hti
                    have hpt : totP i (t + 1) = totP i t + wid (i - t) := rfl
                    obtain ⟨z, hz⟩ : ∃ z, wid (i - t) = z := ⟨_, rfl⟩
                    rw [hz] at hz6 hds hpt
                    have hbit : (j + 1) * totW i ≤ T := by rw [← HT.out.1]; exact Nat.mul_le_mul_right _ (by omega)
                    have hp0' := HD0.out.2.2
                    have hpz : p0 + totP i t + z ≤ T := by rw [Nat.add_mul] at hbit; omega
                    have hqq := HT.out.2
                    have hav : z = 0 ∨ A3 + (p0 + totP i t + z - 1) / 8 < xs.length := by
                      rw [H.out.1]
                      by_cases hz0 : z = 0
                      · exact .inl hz0
                      · right; omega
                    have hrb := rbits_calls (at_ := A3) (bit := p0 + totP i t) z hD.s2.s1.rd (by omega) (by omega) hav (by omega)
                    have hrl := readF_lt (f := bitAt xs A3) (bitAt_lt xs A3) (p0 + totP i t) z
                    have hpw : 2 ^ z ≤ 2 ^ 6 := Nat.pow_le_pow_right (by omega) hz6
                    obtain ⟨y, hy⟩ : ∃ y, readF (bitAt xs A3) (p0 + totP i t) z = y := ⟨_, rfl⟩
                    rw [hy] at hrb hds hrl
                    have hy64 : y < 64 := Nat.lt_of_lt_of_le hrl (by simpa using hpw)
                    have HRB := Lib.hid hrb
                    have HY := Lib.hid (And.intro hz (And.intro hds (And.intro hpt (And.intro hD hpz))))
                    clear hz hp hp1 hds hpt hbit hp0' hqq hav hrb hrl hpw hy hD hpz
                    by_cases hbad : i - t ≤ y
                    · have hbi : ((i - t : Nat) : Int) ≤ (y : Int) := by omega
                      go_wp2_with (first | (go_at_call 26; refine (width_calls i t _ hti hd64).mono ?_; rintro e w' ⟨rfl, rfl⟩; rw [HY.out.1]) | (go_at_call 46; refine HRB.out.mono ?_; rintro e w7 ⟨rfl, hto⟩; have hS7 := HY.out.2.2.2.1.s2.to hto; have b0 := hS7.s1.bx.a0; have b1 := hS7.s1.bx.a1; have b2 := hS7.s1.bx.a2; have f0 := hS7.s1.bx.fr 0; have f1 := hS7.s1.bx.fr 1; have f2 := hS7.s1.bx.fr 2; have r0 := hS7.s1.rd.c0; have r1 := hS7.s1.rd.c1; have r2 := hS7.s1.rd.c2; have q1 := hS7.s1.rd.fr 1; have q2 := hS7.s1.rd.fr 2; have x0 := hS7.bx.a0; have y1 := hS7.bx.a1; have y2 := hS7.bx.a2; have v0 := hS7.bx.fr 0; have v1 := hS7.bx.fr 1; have v2 := hS7.bx.fr 2; have H7 := Lib.hid hS7; clear hS7 hto))
                      have hR : r = .error 3 := by
                        have h1 := bad_gens HG.out hjm (by rw [HD0.out.2.2]; exact HY.out.2.2.2.1) (by rw [HD0.out.2.2]; exact HY.out.2.1) hbad
                        rw [HR.out, entU, h1]
                      have HR3 := Lib.hid hR
                      clear hR
                      obtain ⟨W, hW⟩ : ∃ W, W = w7 := ⟨_, rfl⟩
                      rw [← hW]
                      rw [Exit.noGoto_ret]
                      have hS := H7.out.s1
                      rw [← hW] at hS
                      obtain ⟨d0, d1, d2, hg⟩ := hS.failed
                      exact bodyPost_ret (v := .tuple #[.agg #[.string ⟨#[]⟩, .int .i64 0, .slice none 0 0], .int .i64 3]) (by simp [results, Tryd.results36, go_sem, d0, d1, d2]) rfl (EntRes.bad HR3.out hg)
                    · have hbi : (y : Int) < ((i - t : Nat) : Int) := by omega
                      obtain ⟨lv, hlv⟩ : ∃ lv, L[y]? = some lv := ⟨_, List.getElem?_eq_getElem (by rw [HY.out.2.2.2.1.ll]; omega)⟩
                      have hPl : (ints P).length < 1099511627776 := by rw [ints_len, HY.out.2.2.2.1.pl]; omega
                      have HL := Lib.hid (And.intro hlv hPl)
                      have hgls : wg.heap.size ≤ wr.heap.size := HY.out.2.2.2.1.gr.size
                      clear hlv hPl
                      go_wp2_with (go_at_call 26; refine (width_calls i t _ hti hd64).mono ?_; rintro e w' ⟨rfl, rfl⟩; rw [HY.out.1])
                      refine HRB.out.mono ?_
                      rintro e w7 ⟨rfl, hto⟩
                      have hD7 := HY.out.2.2.2.1.read hto
                      have hcl0 := hD7.1.cell y (by rw [ints_len, HY.out.2.2.2.1.ll]; omega)
                      have hcl : w7.cell? ⟨gl, y, none⟩ = some (.int .i64 lv) := by
                        rw [hcl0]; unfold ints; rw [List.getElem?_map, HL.out.1]; rfl
                      have hsz7 : wg.heap.size ≤ w7.heap.size := Nat.le_trans hgls hto.2.size
                      have H7 := Lib.hid (And.intro hD7 hto)
                      clear hD7 hto hcl0 hgls
                      go_wp2_with (at_builtin; refine app1 rfl (.tmp 169) (.tmp 174) 57 3 rfl i3 (.int .i64 0) 8 Tryd.underlying57 I3.out.1 I3.out.2.1 I3.out.2.2.1 I3.out.2.2.2 rfl (by omega) wg.heap.size (.int .i64 lv) u18 (ints P) rfl H7.out.1.2.1 rfl rfl HL.out.2 hsz7 ?_; intro v8 w8 h2 h3 h4; have H8 := Lib.hid (And.intro h2 (And.intro h3 h4)); clear h2 h3 h4)
                      have hleft8 := H7.out.1.1.kept H8.out.2.1 (.inr (fun e => HY.out.2.2.2.1.ne e.symm))
                      rw [show ((y : Int) + 1) = ((y + 1 : Nat) : Int) by omega]
                      refine (del_calls hleft8 (by rw [HY.out.2.2.2.1.ll]; omega)).mono ?_
                      rintro e w9 ⟨rfl, h5, h6⟩
                      have hnext := HY.out.2.2.2.1.step hti (by rw [HY.out.2.2.1]; have := H7.out.2; rw [← Nat.add_assoc]; exact this) H8.out.1 H8.out.2.1 H8.out.2.2 h5 h6 (by rw [HY.out.2.2.2.1.ll]; omega) (dig_next HY.out.2.2.2.1.eq HY.out.2.1 HL.out.1)
                      have HN := Lib.hid hnext
                      clear hleft8 h5 h6 hnext
                      go_wp2
                      exact ⟨⟨t + 1, 0, _, _, by omega, by go_num, by rw [show i - (t + 1) = i - t - 1 by omega], HN.out⟩, by simp [intOf]; omega⟩
                  · obtain rfl : t = i := by omega
                    have hp0 := HD0.out.2.2
                    subst hp0
                    obtain ⟨cs, g1, g2⟩ := gens_own HG.out.own hD.gr (by have := hD.s2.le; have := hD.s2.s1.pl; omega)
                    have hpo := hD.perm.mono (B' := X + 1) (by have := hD.le; omega)
                    have hcl : cs.length < 1099511627776 := by rw [g2.1, HG.out.len]; omega
                    obtain ⟨gp, capp, rfl, _, _, _, _⟩ := hpo.form (by rw [ints_len, hD.pl]; omega)
                    rw [ints_len] at hpo hD ⊢
                    have hXw : X + 1 ≤ wr.heap.size := by have := hD.s2.bx.lt; omega
                    have hS := hD.s2
                    have b0 := hS.s1.bx.a0; have b1 := hS.s1.bx.a1; have b2 := hS.s1.bx.a2; have f0 := hS.s1.bx.fr 0; have f1 := hS.s1.bx.fr 1; have f2 := hS.s1.bx.fr 2; have r0 := hS.s1.rd.c0; have r1 := hS.s1.rd.c1; have r2 := hS.s1.rd.c2; have q1 := hS.s1.rd.fr 1; have q2 := hS.s1.rd.fr 2; have x0 := hS.bx.a0; have y1 := hS.bx.a1; have y2 := hS.bx.a2; have v0 := hS.bx.fr 0; have v1 := hS.bx.fr 1; have v2 := hS.bx.fr 2; rw [H.out.1] at r0
                    obtain ⟨i57, hi57, hz57, hs57, hb57⟩ := info_parts Tryd.info57
                    have I57 := Lib.hid (And.intro hi57 (And.intro hz57 (And.intro hs57 hb57)))
                    have y2g := HG.out.s2.bx.a2
                    have Hy2 := Lib.hid y2g
                    obtain ⟨vv, hvv⟩ : ∃ vv, vv = Value.slice va j vc := ⟨_, rfl⟩
                    rw [← hvv] at y2 g1
                    have HD := Lib.hid (And.intro hD (And.intro g1 (And.intro g2 (And.intro hpo (And.intro hcl hvv)))))
                    clear hD g1 g2 hpo hcl hS hi57 hz57 hs57 hb57 y2g hvv
                    go_wp2_with (at_builtin; refine app1 rfl (.tmp 184) (.tmp 186) 42 57 rfl i57 (.slice none 0 0) 24 Tryd.underlying42 I57.out.1 I57.out.2.1 I57.out.2.2.1 I57.out.2.2.2 rfl (by omega) (X + 1) (.slice (some ⟨gp, 0, none⟩) P.length capp) vv cs rfl HD.out.2.1 rfl rfl HD.out.2.2.2.2.1 hXw ?_; intro v5 w5 h2 h3 h4; have hg5 := gens_app HD.out.2.1 HD.out.2.2.1 HD.out.2.2.2.1 h2 h3; obtain ⟨a5, c5, rfl⟩ := hg5.form; have hx5 := (HD.out.1.s2.own h3 (fun g hg => own_ge HD.out.2.1 g hg)).bx; have x50 := hx5.a2; have f50 := hx5.fr 2; have H5 := Lib.hid (And.intro h2 (And.intro h3 hg5)); clear h2 h3 h4 hg5 hx5)
                    have hvv := HD.out.2.2.2.2.2
                    have hnx := genSt_next HG.out hjm HD.out.1 H5.out.2.2 (by have := H5.out.2.1; rw [hvv] at this; exact this) (fun g hg => by have := HD.out.2.1; rw [hvv] at this; exact own_ge this g hg)
                    have hl5 : (gs ++ [P]).length = gs.length + 1 := by simp
                    rw [hl5] at hnx
                    refine ⟨⟨j + 1, _, _, by omega, hnx⟩, ?_⟩
                    have hlj := HG.out.len
                    rw [genM_eq hnx.s2.bx.a2, genM_eq Hy2.out]
                    omega
          · obtain rfl : j = m := by omega
            clear hjm
            have hjm2 : ((j : Int) == j) = true := by simp
            have hgE := HG.out.eq
            rw [Nat.sub_self, gensF] at hgE
            have hgE : gensF (bitAt xs A3) k 0 j = some gs := by rw [hgE]; simp
            have hjT : j * totW k = T := HT.out.1
            have hqq := HT.out.2
            obtain ⟨fl8, hfl8⟩ : ∃ fl8, (8 - T % 8) % 8 = fl8 := ⟨_, rfl⟩
            have hrbits := rbits_calls (at_ := A3) (bit := T) fl8 (by have := HG.out.s2.s1.rd; rw [hjT] at this; exact this) (by omega) (by omega) (by rw [H.out.1]; omega) (by omega)
            obtain ⟨y, hy⟩ : ∃ y, readF (bitAt xs A3) T fl8 = y := ⟨_, rfl⟩
            rw [hy] at hrbits
            have hry := readF_lt (f := bitAt xs A3) (bitAt_lt xs A3) T fl8
            have hR2 : r = if y ≠ 0 then .error 3 else .ok (⟨nm, (k : Nat), gs⟩, A3 + q) := by rw [HR.out, entU, hgE]; simp only; rw [hfl8, hy]
            have HRB := Lib.hid hrbits
            have HZ := Lib.hid (And.intro hR2 (And.intro hjT hfl8))
            have g1 : (T : Int).tmod 8 = (T : Int) % 8 := Int.tmod_eq_emod_of_nonneg (by omega)
            have g2 : (-((T : Int) % 8)) % 8 = (fl8 : Int) := by omega
            clear hgE hjT hqq hrbits hR2 hfl8 hy hry
            by_cases hy0 : y = 0
            · have hy1 : ((y : Int) != 0) = false := by simp [hy0]
              clear g1
              go_wp2_with fail
              refine HRB.out.mono ?_
              rintro e w7 ⟨rfl, hto⟩
              have hS7 := HG.out.s2.to (by have := hto; exact this)
              have b0 := hS7.s1.bx.a0; have b1 := hS7.s1.bx.a1; have b2 := hS7.s1.bx.a2; have f0 := hS7.s1.bx.fr 0; have f1 := hS7.s1.bx.fr 1; have f2 := hS7.s1.bx.fr 2; have r0 := hS7.s1.rd.c0; have r1 := hS7.s1.rd.c1; have r2 := hS7.s1.rd.c2; have q1 := hS7.s1.rd.fr 1; have q2 := hS7.s1.rd.fr 2; have x0 := hS7.bx.a0; have y1 := hS7.bx.a1; have y2 := hS7.bx.a2; have v0 := hS7.bx.fr 0; have v1 := hS7.bx.fr 1; have v2 := hS7.bx.fr 2; rw [H.out.1] at r0
              have H7 := Lib.hid hS7
              have hown7 := gens_own HG.out.own hto.2 (by omega)
              have HO7 := Lib.hid hown7
              clear hS7 hto hown7 g2
              have e1 : ((T : Int) + 7).tdiv 8 = (q : Int) := by have := HT.out.2; rw [Int.tdiv_eq_ediv_of_nonneg (by omega)]; omega
              have e3 : ((T : Int) + 7) / 8 = (q : Int) := by have := HT.out.2; omega
              have e5 : IntKind.i64.wrap ((T : Int) + 7) = (T : Int) + 7 := IntWalk.i64_in _ (by omega)
              have e6 : IntKind.i64.wrap ((A3 : Int) + q) = (A3 : Int) + q := IntWalk.i64_in _ (by omega)
              go_wp2
              have hS9 := H7.out.s1.set1 (A3 + q)
              rw [show ((A3 + q : Nat) : Int) = (A3 : Int) + q by omega] at hS9
              have hO9 := gens_own HO7.out (grown_put (w := w7) (g := p) 1 (.int .i64 ((A3 : Int) + q))) (by omega)
              have hRok := HZ.out.1.trans (if_neg (by simp [hy0]))
              obtain ⟨W, hW⟩ : ∃ W, W = w7.setCell ⟨p, 1, none⟩ (.int .i64 ((A3 : Int) + q)) := ⟨_, rfl⟩
              rw [← hW] at hS9 hO9 ⊢
              rw [Exit.noGoto_ret]
              obtain ⟨d0, d1, d2, hg⟩ := hS9.done (.string nm) (.int .i64 (k : Int)) (.slice va j vc)
              exact bodyPost_ret (v := .tuple #[.agg #[.string nm, .int .i64 (k : Int), .slice va j vc], .int .i64 0]) (by simp [results, Tryd.results36, go_sem, d0, d1, d2]) rfl (EntRes.good hRok hS9 hO9 (by omega) hg)
            · have hy1 : ((y : Int) != 0) = true := by simp [hy0]
              clear g1
              go_wp2_with fail
              refine HRB.out.mono ?_
              rintro e w7 ⟨rfl, hto⟩
              have hS7 := HG.out.s2.to (by have := hto; exact this)
              have b0 := hS7.s1.bx.a0; have b1 := hS7.s1.bx.a1; have b2 := hS7.s1.bx.a2; have f0 := hS7.s1.bx.fr 0; have f1 := hS7.s1.bx.fr 1; have f2 := hS7.s1.bx.fr 2; have r0 := hS7.s1.rd.c0; have r1 := hS7.s1.rd.c1; have r2 := hS7.s1.rd.c2; have q1 := hS7.s1.rd.fr 1; have q2 := hS7.s1.rd.fr 2; have x0 := hS7.bx.a0; have y1 := hS7.bx.a1; have y2 := hS7.bx.a2; have v0 := hS7.bx.fr 0; have v1 := hS7.bx.fr 1; have v2 := hS7.bx.fr 2; rw [H.out.1] at r0
              have H7 := Lib.hid hS7
              clear hS7 hto g2
              go_wp2
              have HR3 := Lib.hid (HZ.out.1.trans (if_pos hy0))
              obtain ⟨W, hW⟩ : ∃ W, W = w7 := ⟨_, rfl⟩
              rw [← hW]
              rw [Exit.noGoto_ret]
              have hS := H7.out.s1
              rw [← hW] at hS
              obtain ⟨d0, d1, d2, hg⟩ := hS.failed
              exact bodyPost_ret (v := .tuple #[.agg #[.string ⟨#[]⟩, .int .i64 0, .slice none 0 0], .int .i64 3]) (by simp [results, Tryd.results36, go_sem, d0, d1, d2]) rfl (EntRes.bad HR3.out hg)
end Go.Proofs.YtjjjnpolhbbepaaDoor
