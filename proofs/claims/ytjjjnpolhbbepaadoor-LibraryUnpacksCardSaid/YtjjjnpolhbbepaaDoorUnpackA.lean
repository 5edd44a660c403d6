/- Unpack: its loop over the entries. -/
import Derived.Test.YtjjjnpolhbbepaaDoorEntry
import Derived.Test.YtjjjnpolhbbepaaDoorBig
set_option linter.unusedSimpArgs false
set_option linter.unusedVariables false
namespace Go.Proofs.YtjjjnpolhbbepaaDoor
open Go.RowKit
open Plain
theorem Tryd.info46 : (Tryd.prog.info? 46).map (fun i => (i.zero, i.size, i.bytes)) = some (some zeroE, 3, 48) := by kernel_rfl
/-- A row of entries of the call's own. -/
def cellsOf3 (es : List Ent) (vs : List Value) : List Value := (es.zip vs).flatMap fun x => [.string x.1.name, .int .i64 x.1.deg, x.2]
def OwnEnts (w : World) (B : Nat) (v : Value) (es : List Ent) : Prop :=
  ∃ vs : List Value, vs.length = es.length ∧ w.ownsRow B 46 3 v es.length (cellsOf3 es vs) ∧ ∀ (i : Nat) e u, es[i]? = some e → vs[i]? = some u → OwnGens w B u e.gens
def UnpRes (w : World) (r : List Ent × Int × Nat) (e : Ending) (w' : World) : Prop :=
  ∃ v, e = .returned (.tuple #[v, .agg #[.int .i64 r.2.1, .int .i64 (r.2.2 : Int)]]) ∧ OwnEnts w' w.heap.size v r.1 ∧ Below w.heap.size w w'
theorem OwnEnts.nil (w : World) (B : Nat) : OwnEnts w B (.slice none 0 0) [] :=
  ⟨[], rfl, World.ownsRow_nil w B 46 3, fun i e u h => by simp at h⟩
theorem UnpRes.bad {w w' : World} {r : List Ent × Int × Nat} {z : Int} {a : Nat} (hr : r = ([], z, a)) (hb : Below w.heap.size w w') :
    UnpRes w r (.returned (.tuple #[.slice none 0 0, .agg #[.int .i64 z, .int .i64 (a : Int)]])) w' := by
  subst hr
  exact ⟨_, rfl, OwnEnts.nil _ _, hb⟩
noncomputable def codeU15 : Code := ((Tryd.f16.body.bind (fromR 15)).getD .skip)
def lastOf (k : Nat) (s : ByteArray) : Option ByteArray := if k = 0 then none else some s
theorem lastOf_ok {k : Nat} {s : ByteArray} : ∀ x, lastOf k s = some x → s = x := fun x hx => by
  unfold lastOf at hx
  split at hx
  · cases hx
  · cases hx; rfl
structure LoopSt (w wr : World) (p : Nat) (a : Option Addr) (c : Nat) (ys : List Nat) (at_ bit k m : Nat) (lastS : ByteArray) (v : Value) (acc : List Ent) (r : List Ent × Int × Nat) : Prop where
  rd : Rd wr p a c ys at_ bit
  pl : w.heap.size < p
  bl : Below w.heap.size w wr
  c0 : wr.cell? ⟨w.heap.size, 0, none⟩ = some (.int .i64 0)
  c1 : wr.cell? ⟨w.heap.size, 1, none⟩ = some (.int .i64 0)
  fr : ∀ o, wr.frozen? ⟨w.heap.size, o, none⟩ = false
  le : at_ ≤ ys.length
  own : OwnEnts wr (p + 1) v acc
  len : acc.length = k
  eq : r = entsA ys at_ (lastOf k lastS) acc (m - k)
theorem entP_le {b : List Nat} {at_ : Nat} {last : Option ByteArray} {x : Ent × Nat} (h : entP b at_ last = .ok x) : x.2 ≤ b.length := by
  rw [entP_eq] at h
  split at h
  · cases h
  split at h
  · cases h
  rw [entR] at h
  split at h
  · cases h
  split at h
  · cases h
  rw [entS] at h
  split at h
  · cases h
  split at h
  · cases h
  rw [entT] at h
  split at h
  · cases h
  rw [entU] at h
  split at h
  · cases h
  split at h
  · cases h
  cases h
  simp only
  omega
theorem entP_ne {b : List Nat} {at_ : Nat} {last : Option ByteArray} {z : Int} (h : entP b at_ last = .error z) : z ≠ 0 := by
  rw [entP_eq] at h
  split at h
  · cases h; omega
  split at h
  · cases h; omega
  rw [entR] at h
  split at h
  · cases h; omega
  split at h
  · cases h; omega
  rw [entS] at h
  split at h
  · cases h; omega
  split at h
  · cases h; omega
  rw [entT] at h
  split at h
  · cases h; omega
  rw [entU] at h
  split at h
  · cases h; omega
  split at h
  · cases h; omega
  cases h
theorem rd_new {w : World} {a : Option Addr} {c : Nat} {ys : List Nat} (hb : Byts w a ys) (hba : ∀ b o, a = some ⟨b, o, none⟩ → b < w.heap.size) (hlt : ∀ x ∈ ys, x < 256) (hl : ys.length ≤ 500000) :
    Rd (w.alloc (.cells #[.slice a ys.length c, .int .i64 6, .int .i64 0] 69)) w.heap.size a c ys 6 0 := by
  have hx := Box3.new w (.slice a ys.length c) (.int .i64 6) (.int .i64 0) 69
  exact ⟨hx.a0, hx.a1, hx.a2, hx.fr, Row.below hb ((Below.refl _ _).alloc (Nat.le_refl _) _), fun b o e => by have := hba b o e; omega, hx.lt, hlt, hl⟩
theorem LoopSt.new {w wc : World} {a : Option Addr} {c m N : Nat} {ys : List Nat} {r : List Ent × Int × Nat} (hyl : ys.length = N) (hb : Byts wc a ys) (hba : ∀ b o, a = some ⟨b, o, none⟩ → b < wc.heap.size) (hlt : ∀ x ∈ ys, x < 256) (hl : ys.length ≤ 500000) (h6 : 6 ≤ ys.length)
    (hk : Below w.heap.size w wc) (c0 : wc.cell? ⟨w.heap.size, 0, none⟩ = some (.int .i64 0)) (c1 : wc.cell? ⟨w.heap.size, 1, none⟩ = some (.int .i64 0)) (cf : ∀ o, wc.frozen? ⟨w.heap.size, o, none⟩ = false) (hsz : w.heap.size < wc.heap.size) (hr : r = entsA ys 6 none [] m) :
    LoopSt w (wc.alloc (.cells #[.slice a N c, .int .i64 6, .int .i64 0] 69)) wc.heap.size a c ys 6 0 0 m ⟨#[]⟩ (.slice none 0 0) [] r := by
  subst hyl
  have hal : Below wc.heap.size wc (wc.alloc (.cells #[.slice a ys.length c, .int .i64 6, .int .i64 0] 69)) := (Below.refl _ _).alloc (Nat.le_refl _) _
  exact ⟨rd_new hb hba hlt hl, hsz, hk.alloc hk.size _, (hal.cell (p := ⟨w.heap.size, 0, none⟩) hsz).trans c0, (hal.cell (p := ⟨w.heap.size, 1, none⟩) hsz).trans c1, fun o => (hal.frozen (p := ⟨w.heap.size, o, none⟩) hsz).trans (cf o), h6, OwnEnts.nil _ _, rfl, by rw [hr]; rfl⟩
theorem res2 {w : World} {R : Nat} {u0 u1 : Value} (c0 : w.cell? ⟨R, 0, none⟩ = some u0) (c1 : w.cell? ⟨R, 1, none⟩ = some u1) (x y : Value) :
    ((w.setCell ⟨R, 0, none⟩ x).setCell ⟨R, 1, none⟩ y).cell? ⟨R, 0, none⟩ = some x ∧ ((w.setCell ⟨R, 0, none⟩ x).setCell ⟨R, 1, none⟩ y).cell? ⟨R, 1, none⟩ = some y ∧ w.grownBy ((w.setCell ⟨R, 0, none⟩ x).setCell ⟨R, 1, none⟩ y) (some R) := by
  have n01 : (⟨R, 0, none⟩ : Addr) ≠ ⟨R, 1, none⟩ := by intro e; simp at e
  have e1 : (w.setCell ⟨R, 0, none⟩ x).cell? ⟨R, 1, none⟩ = _ := (World.cell?_setCell_other _ _ _ _ n01).trans c1
  exact ⟨(World.cell?_setCell_other _ _ _ _ (Ne.symm n01)).trans (World.cell?_setCell_same _ _ _ c0), World.cell?_setCell_same _ _ _ e1, (grown_store x).trans (grown_store y)⟩
theorem owns_ge {w : World} {B n s : Nat} {v : Value} {e : TypeId} {xs : List Value} (h : w.ownsRow B e s v n xs) : v.ownBlock = none ∨ ∃ g, v.ownBlock = some g ∧ B ≤ g := by
  rcases h.2 with ⟨rfl, _⟩ | ⟨g, cap, cur, rfl, hB, _⟩
  · exact .inl rfl
  · exact .inr ⟨g, rfl, hB⟩
theorem owns_mono {w : World} {B B' n s : Nat} {v : Value} {e : TypeId} {xs : List Value} (h : w.ownsRow B e s v n xs) (hb : B' ≤ B) : w.ownsRow B' e s v n xs := by
  obtain ⟨h1, h2⟩ := h
  refine ⟨h1, ?_⟩
  rcases h2 with h2 | ⟨g, cap, cur, hv, hg, r⟩
  · exact .inl h2
  · exact .inr ⟨g, cap, cur, hv, by omega, r⟩
theorem OwnGens.mono {w : World} {B B' : Nat} {v : Value} {gs : List (List Int)} (h : OwnGens w B v gs) (hb : B' ≤ B) : OwnGens w B' v gs := by
  obtain ⟨cs, h1, h2⟩ := h
  exact ⟨cs, h1.mono hb, h2.mono hb⟩
theorem OwnEnts.kept {w w' : World} {B q : Nat} {v : Value} {es : List Ent} (h : OwnEnts w B v es) (hg : w.grownBy w' (some q)) (hq : q < B) : OwnEnts w' B v es := by
  obtain ⟨vs, hl, ho, hi⟩ := h
  refine ⟨vs, hl, World.ownsRow.kept ho hg ?_, fun i e u he hu => gens_own (hi i e u he hu) hg hq⟩
  rcases owns_ge ho with e | ⟨g, e, hB⟩
  · exact .inl e
  · right; rw [e]; intro e2; cases e2; omega
theorem OwnEnts.mono {w : World} {B B' : Nat} {v : Value} {es : List Ent} (h : OwnEnts w B v es) (hb : B' ≤ B) : OwnEnts w B' v es := by
  obtain ⟨vs, hl, ho, hi⟩ := h
  exact ⟨vs, hl, owns_mono ho hb, fun i e u he hu => (hi i e u he hu).mono hb⟩
theorem below_grown {w w1 w2 : World} {q : Nat} (h : Below w.heap.size w w1) (k : w1.grownBy w2 (some q)) (hq : w.heap.size ≤ q) : Below w.heap.size w w2 :=
  ⟨k.os.trans h.os, k.tape.trans h.tape, k.output.trans h.output, Nat.le_trans h.size k.size, fun b hb => (k.block b (Nat.lt_of_lt_of_le hb h.size) (fun e => by cases e; omega)).trans (h.block b hb)⟩
theorem UnpRes.good {w wr w' : World} {p : Nat} {v : Value} {acc : List Ent} {r : List Ent × Int × Nat} (hr : r = (acc, 0, 0)) (ho : OwnEnts wr (p + 1) v acc) (hp : w.heap.size < p) (hb : Below w.heap.size w wr) (hg : wr.grownBy w' (some w.heap.size)) :
    UnpRes w r (.returned (.tuple #[v, .agg #[.int .i64 0, .int .i64 0]])) w' := by
  subst hr
  exact ⟨v, rfl, (ho.kept hg (by omega)).mono (by omega), below_grown hb hg (Nat.le_refl _)⟩
theorem owns_blk {w : World} {B n s : Nat} {v : Value} {e : TypeId} {xs : List Value} (h : w.ownsRow B e s v n xs) : v.ownBlock = none ∨ ∃ g cur, v.ownBlock = some g ∧ B ≤ g ∧ g < w.heap.size ∧ w.heap[g]? = some (.cells cur e (0, 0)) := by
  rcases h.2 with ⟨rfl, _⟩ | ⟨g, cap, cur, rfl, hB, hh, _⟩
  · exact .inl rfl
  · refine .inr ⟨g, cur, rfl, hB, ?_, hh⟩
    rcases Nat.lt_or_ge g w.heap.size with hl | hl
    · exact hl
    · rw [Array.getElem?_eq_none hl] at hh; cases hh
theorem owns_ne {w : World} {B B' n n' s s' : Nat} {v v' : Value} {e e' : TypeId} {xs xs' : List Value} (h : w.ownsRow B e s v n xs) (h' : w.ownsRow B' e' s' v' n' xs') (hne : e ≠ e') : v.ownBlock = none ∨ v.ownBlock ≠ v'.ownBlock := by
  rcases owns_blk h with h1 | ⟨g, cur, h1, _, _, h2⟩
  · exact .inl h1
  · right
    rcases owns_blk h' with h3 | ⟨g', cur', h3, _, _, h4⟩
    · rw [h1, h3]; simp
    · rw [h1, h3]
      intro he
      injection he with he
      subst he
      rw [h2] at h4
      injection h4 with h4
      injection h4 with _ h5
      exact hne h5
theorem OwnGens.kept3 {w w' : World} {B B' n s : Nat} {u v : Value} {gs : List (List Int)} {xs : List Value} (h : OwnGens w B u gs) (ho : w.ownsRow B' 46 s v n xs) (hg : w.grownBy w' v.ownBlock) : OwnGens w' B u gs := by
  obtain ⟨cs, h1, h2⟩ := h
  exact ⟨cs, h1.kept hg (owns_ne h1 ho (by decide)), h2.kept hg (fun u xs hu => owns_ne hu ho (by decide))⟩
theorem cells_app {acc : List Ent} {vs : List Value} (hl : vs.length = acc.length) (e : Ent) (u : Value) : cellsOf3 (acc ++ [e]) (vs ++ [u]) = cellsOf3 acc vs ++ [.string e.name, .int .i64 e.deg, u] := by
  unfold cellsOf3
  rw [List.zip_append hl.symm, List.flatMap_append]
  simp
theorem ents_app {w w' : World} {B : Nat} {v v' vg : Value} {acc : List Ent} {vs : List Value} {e : Ent} (hl : vs.length = acc.length) (ho : w.ownsRow B 46 3 v acc.length (cellsOf3 acc vs)) (hi : ∀ (i : Nat) e u, acc[i]? = some e → vs[i]? = some u → OwnGens w B u e.gens)
    (hge : OwnGens w B vg e.gens) (hv : w'.ownsRow B 46 3 v' (acc.length + 1) (cellsOf3 acc vs ++ [.string e.name, .int .i64 e.deg, vg])) (hg : w.grownBy w' v.ownBlock) : OwnEnts w' B v' (acc ++ [e]) := by
  refine ⟨vs ++ [vg], by simp [hl], by rw [cells_app hl, List.length_append]; exact hv, fun i e' u he hu => ?_⟩
  by_cases hlt : i < acc.length
  · rw [List.getElem?_append_left hlt] at he
    rw [List.getElem?_append_left (by omega)] at hu
    exact (hi i e' u he hu).kept3 ho hg
  · rw [List.getElem?_append_right (by omega)] at he hu
    have h0 : i - acc.length = 0 := by
      have := (List.getElem?_eq_some_iff.1 he).1
      simp at this; omega
    rw [h0] at he
    rw [hl, h0] at hu
    simp at he hu
    subst he; subst hu
    exact hge.kept3 ho hg
theorem Rd.grownO {w w' : World} {p : Nat} {a : Option Addr} {c : Nat} {xs : List Nat} {at_ bit : Nat} (h : Rd w p a c xs at_ bit) {row : Option Nat} (hg : w.grownBy w' row) (hr : ∀ r, row = some r → r ≠ p) (ha : ∀ b o, a = some ⟨b, o, none⟩ → row ≠ some b) : Rd w' p a c xs at_ bit := by
  have hb := hg.block p h.lt (fun e => hr p e.symm rfl)
  refine ⟨(World.cell?_of_block (a := ⟨p, 0, none⟩) hb).trans h.c0, (World.cell?_of_block (a := ⟨p, 1, none⟩) hb).trans h.c1, (World.cell?_of_block (a := ⟨p, 2, none⟩) hb).trans h.c2, fun o => (World.frozen?_of_block (a := ⟨p, o, none⟩) hb).trans (h.fr o), ⟨h.row.1, fun i x hx => ?_⟩, h.ne, Nat.lt_of_lt_of_le h.lt hg.size, h.byte, h.len⟩
  obtain ⟨b, o, e, hbl, hc⟩ := h.row.2 i x hx
  exact ⟨b, o, e, Nat.lt_of_lt_of_le hbl hg.size, (World.cell?_of_block (a := ⟨b, o + i, none⟩) (hg.block b hbl (fun e' => ha b o e e'.symm))).trans hc⟩
theorem below_grownO {w w1 w2 : World} {row : Option Nat} (h : Below w.heap.size w w1) (k : w1.grownBy w2 row) (hq : ∀ q, row = some q → w.heap.size ≤ q) : Below w.heap.size w w2 :=
  ⟨k.os.trans h.os, k.tape.trans h.tape, k.output.trans h.output, Nat.le_trans h.size k.size, fun b hb => (k.block b (Nat.lt_of_lt_of_le hb h.size) (fun e => by have := hq b e.symm; omega)).trans (h.block b hb)⟩
theorem LoopSt.next {w wr w2 w' : World} {p : Nat} {a : Option Addr} {c : Nat} {ys : List Nat} {at_ bit k m at2 bit2 kk : Nat} {lastS nm : ByteArray} {dg : Int} {gs : List (List Int)} {v v' vg : Value} {vs : List Value} {acc : List Ent} {r : List Ent × Int × Nat}
    (h : LoopSt w wr p a c ys at_ bit k m lastS v acc r) (hg2 : wr.grownBy w2 (some p)) (hrd : Rd w2 p a c ys at2 bit2) (hgens : OwnGens w2 wr.heap.size vg gs) (hl : vs.length = acc.length)
    (ho : w2.ownsRow (p + 1) 46 3 v acc.length (cellsOf3 acc vs)) (hi : ∀ (i : Nat) e u, acc[i]? = some e → vs[i]? = some u → OwnGens w2 (p + 1) u e.gens)
    (hv : w'.ownsRow (p + 1) 46 3 v' (k + 1) (cellsOf3 acc vs ++ [.string nm, .int .i64 dg, vg])) (hg : w2.grownBy w' v.ownBlock) (hle : at2 ≤ ys.length) (hr : r = entsA ys at2 (some nm) (acc ++ [⟨nm, dg, gs⟩]) kk) (hkk : m - k = kk + 1)
    (hba : ∀ b o, a = some ⟨b, o, none⟩ → b < w.heap.size) : LoopSt w w' p a c ys at2 bit2 (k + 1) m nm v' (acc ++ [⟨nm, dg, gs⟩]) r := by
  have hpl := h.pl
  have hp := h.rd.lt
  have hrow : ∀ g, v.ownBlock = some g → p < g := fun g e => by
    rcases owns_blk ho with e1 | ⟨g', _, e1, hB, _⟩
    · rw [e1] at e; cases e
    · rw [e1] at e; cases e; omega
  have hR := block_lt_of_cell h.c0
  simp only at hR
  have hb2 := hg2.block w.heap.size hR (fun e => by cases e; omega)
  have hb3 := hg.block w.heap.size (Nat.lt_of_lt_of_le hR hg2.size) (fun e => by have := hrow _ e.symm; omega)
  have hb := hb3.trans hb2
  refine ⟨hrd.grownO hg (fun g e => by have := hrow g e; omega) (fun b o e e2 => by have := hba b o e; have := hrow b e2; omega), hpl, below_grownO (below_grown h.bl hg2 (by omega)) hg (fun q e => by have := hrow q e; omega),
    (World.cell?_of_block (a := ⟨w.heap.size, 0, none⟩) hb).trans h.c0, (World.cell?_of_block (a := ⟨w.heap.size, 1, none⟩) hb).trans h.c1, fun o => (World.frozen?_of_block (a := ⟨w.heap.size, o, none⟩) hb).trans (h.fr o), hle,
    ents_app hl ho hi (hgens.mono (by omega)) (by rw [h.len]; exact hv) hg, by simp [h.len], ?_⟩
  rw [hr, show m - (k + 1) = kk by omega]
  unfold lastOf
  rw [if_neg (by omega)]
theorem app_ent {ops : Array Oper} {o : Oper} {a : Act} {K : Act → World → Prop} {Q : Exit → Act → World → Prop} {E : Prop} {wA wX : World} {p k : Nat} {u9 v : Value} {nm : ByteArray} {dg : Int} {cs : List Value} {i46 : TypeInfo}
    (hgd : o.guard = none) (s x : Operand) (ho : o.op = .call { callee := .builtin .append, args := #[s, x], argTypes := #[22, 22] })
    (hI : Tryd.prog.info? 46 = some i46 ∧ i46.zero = some zeroE ∧ i46.size = 3 ∧ i46.bytes = 48) (hs : a.eval s = u9) (hx : a.eval x = .slice (some ⟨wA.heap.size, 0, none⟩) 1 1)
    (hw : wX = (wA.alloc (.cells #[.string nm, .int .i64 dg, v] 46)).drew) (hown : wA.ownsRow (p + 1) 46 3 u9 k cs) (hv1 : v.oneCell' = true) (hk : k ≤ 200) (hpw : p + 1 ≤ wA.heap.size)
    (h : ∀ g cap w', w'.ownsRow (p + 1) 46 3 (.slice (some ⟨g, 0, none⟩) (k + 1) cap) (k + 1) (cs ++ [.string nm, .int .i64 dg, v]) → wA.grownBy w' u9.ownBlock → K (a.put o.dst (.slice (some ⟨g, 0, none⟩) (k + 1) cap)) w') :
    if Region.wanted o (yielded ops a.tmps) = true then Oper.wp Tryd.prog o a wX K Q else E := by
  subst hw
  have hbox := heap_alloc_new wA (.cells #[.string nm, .int .i64 dg, v] 46)
  refine step_append_lies _ hgd s x 22 ho (p + 1) 46 i46 zeroE 3 48 Tryd.underlying22 hI.1 hI.2.1 hI.2.2.1 hI.2.2.2 rfl (by omega) u9 k cs hs ((World.ownsRow.alloc hown _).drew) ⟨wA.heap.size, 0, none⟩ 1 1 [.string nm, .int .i64 dg, v] hx rfl (World.news_of_block (cs := #[.string nm, .int .i64 dg, v]) (t := 46) (fr := (0, 0)) hbox) ?_ (by omega) (by unfold maxLen; omega) (by omega) (by simp; omega) (wA.heap.size + 1) (by simp) ?_
  · intro u hu
    simp only [List.mem_cons, List.not_mem_nil, or_false] at hu
    rcases hu with rfl | rfl | rfl
    · rfl
    · rfl
    · exact hv1
  · intro g cap w1 h1 h2 _ _
    exact h g cap w1 h1 (grown_ad h2)
set_option maxRecDepth 1000000 in
set_option maxHeartbeats 8000000 in
theorem unp_rest {w wS : World} {p m c bb oo N : Nat} {z : Int} {ys : List Nat} {r : List Ent × Int × Nat}
    (hL : LoopSt w wS p (some ⟨bb, oo, none⟩) c ys 6 0 0 m ⟨#[]⟩ (.slice none 0 0) [] r) (hbb : bb < w.heap.size) (hyl : ys.length = N) (hz : z = (N : Int)) (hcN : N ≤ c) (hN3 : N ≤ 499996) (hN6 : 6 ≤ N) (hm : m ≤ 200)
    (u0 u1 u4 u6 u9 u10 u11 u12 u13 u14 u15 u16 u17 u18 u19 u20 u21 u22 u23 u24 u25 u26 u27 u28 u29 u30 u31 u32 u33 u34 u35 u36 u37 u38 u39 u40 u41 u42 u43 u44 u45 u46 u47 u48 u49 u50 u51 u52 u53 u54 u55 u56 u57 u58 u59 u60 u61 u62 u63 u64 u65 u66 u67 u68 u69 u70 u71 u72 u73 u74 u75 u76 u77 u78 u79 u80 u81 u82 u83 u84 u85 u86 u87 u88 u89 u90 u91 u92 u93 u94 u95 u96 u97 u98 u99 u100 u101 u102 : Value) :
    Code.wp Tryd.prog codeU15 (bodyPost Tryd.prog Tryd.f16 (UnpRes w r)) ⟨#[u0, u1, .slice none 0 0, .pointer (some ⟨w.heap.size, 0, none⟩), u4, .int .i64 z, u6, .int .i64 (m : Int), .pointer (some ⟨p, 0, none⟩), u9, u10, u11, u12, u13, u14, u15, u16, u17, u18, u19, u20, u21, u22, u23, u24, u25, u26, u27, u28, u29, u30, u31, u32, u33, u34, u35, u36, u37, u38, u39, u40, u41, u42, u43, u44, u45, u46, u47, u48, u49, u50, u51, u52, u53, u54, u55, u56, u57, u58, u59, u60, u61, u62, u63, u64, u65, u66, u67, u68, u69, u70, u71, u72, u73, u74, u75, u76, u77, u78, u79, u80, u81, u82, u83, u84, u85, u86, u87, u88, u89, u90, u91, u92, u93, u94, u95, u96, u97, u98, u99, u100, u101, u102], []⟩ wS := by
  conv => arg 2; whnf
  subst hz
  have HY := Lib.hid hyl
  have HL := Lib.hid hL
  clear hL hyl
  go_wp2
  go_loopw [9, 10, 63] (fun t9 t10 t63 wr => ∃ (k at_ bit : Nat) (lastS : ByteArray) (acc : List Ent), k ≤ m ∧ t63 = .int .i64 (k : Int) ∧ t10 = .string lastS ∧ LoopSt w wr p (some ⟨bb, oo, none⟩) c ys at_ bit k m lastS t9 acc r) (fun _ _ t63 _ => m - (intOf t63).toNat)
  case atStart => exact ⟨0, 6, 0, _, [], Nat.zero_le _, rfl, rfl, HL.out⟩
  case round =>
    obtain ⟨k, at_, bit, lastS, acc, hkm, rfl, rfl, hS⟩ := hrel
    have q0 := hS.rd.c0; have q1 := hS.rd.c1; have f0 := hS.fr 0; have f1 := hS.fr 1; have c0 := hS.c0; have c1 := hS.c1
    rw [HY.out] at q0
    have hpl := hS.pl
    have hle := hS.le
    rw [HY.out] at hle
    have HS := Lib.hid hS
    clear hS HL
    by_cases hlt : k < m
    · have hx0 : 0 < ys.length := by rw [HY.out]; omega
      have hent := entry_calls (last := lastOf k lastS) (lastS := lastS) HS.out.rd hx0 (by rw [HY.out]; omega) lastOf_ok (by omega)
      have hfl : (lastOf k lastS).isNone = ((k : Int) == 0) := by
        unfold lastOf
        by_cases h0 : k = 0
        · subst h0; rfl
        · rw [if_neg h0]; symm; simp; omega
      rw [hfl] at hent
      have hkm' : (k : Int) < m := by omega
      obtain ⟨kk, hkk⟩ : ∃ kk, m - k = kk + 1 := ⟨m - k - 1, by omega⟩
      cases hE : entP ys at_ (lastOf k lastS) with
      | error z =>
        have hz := entP_ne hE
        have hzb : (z != 0) = true := by simpa using hz
        have hr : r = ([], z, at_) := by rw [HS.out.eq, hkk, entsA, hE]
        rw [hE] at hent
        have HE := Lib.hid hent
        have HR := Lib.hid hr
        clear hent hfl hx0 hE hr hkk hz
        go_upto_region 22 with (go_at_call 36; refine HE.out.mono ?_; rintro e w2 ⟨hg2, rfl⟩; unfold zeroE; have hg3 := hg2.size; have Hg2 := Lib.hid hg2; clear hg2)
        have hg3 : wr.grownBy (w2.alloc (.cells #[.string ⟨#[]⟩, .int .i64 0, .slice none 0 0] 46)) (some p) := Hg2.out.trans (grown_alloc _ _ _)
        generalize w2.alloc (.cells #[.string ⟨#[]⟩, .int .i64 0, .slice none 0 0] 46) = w3 at *
        have hlt0 := block_lt_of_cell c0
        simp only at hlt0
        have hb3 := hg3.block w.heap.size hlt0 (fun e => by cases e; omega)
        have c0 := (World.cell?_of_block (a := ⟨w.heap.size, 0, none⟩) hb3).trans c0
        have c1 := (World.cell?_of_block (a := ⟨w.heap.size, 1, none⟩) hb3).trans c1
        have f0 := (World.frozen?_of_block (a := ⟨w.heap.size, 0, none⟩) hb3).trans f0
        have f1 := (World.frozen?_of_block (a := ⟨w.heap.size, 1, none⟩) hb3).trans f1
        have hb4 := below_grown HS.out.bl hg3 (by omega)
        have HB := Lib.hid hb4
        clear hb4 hg3 hb3 Hg2 q0 q1
        go_wp2
        obtain ⟨d0, d1, hg⟩ := res2 c0 c1 (.int .i64 z) (.int .i64 (at_ : Int))
        have hbw := below_grown HB.out hg (Nat.le_refl _)
        generalize (w3.setCell ⟨w.heap.size, 0, none⟩ (.int .i64 z)).setCell ⟨w.heap.size, 1, none⟩ (.int .i64 (at_ : Int)) = W at *
        exact bodyPost_ret (v := .tuple #[.slice none 0 0, .agg #[.int .i64 z, .int .i64 (at_ : Int)]]) (by simp [results, Tryd.results16, go_sem, d0, d1]) rfl (UnpRes.bad HR.out hbw)
      | ok x =>
        have hr := HS.out.eq
        rw [hkk, entsA, hE] at hr
        rw [hE] at hent
        have HE := Lib.hid hent
        have HR := Lib.hid hr
        have hxl := entP_le hE
        clear hent hfl hx0 hE hr
        go_upto_region 22 with (go_at_call 36; refine HE.out.mono ?_; rintro e w2 ⟨hg2, v, bit', rfl, ho2, hrd2⟩; obtain ⟨va, vc, rfl⟩ := ho2.form; have Hg2 := Lib.hid (And.intro hg2 (And.intro ho2 hrd2)); clear hg2 ho2 hrd2)
        obtain ⟨v, hv⟩ : ∃ v, v = Value.slice va x.1.gens.length vc := ⟨_, rfl⟩
        rw [← hv] at Hg2 ⊢
        obtain ⟨x, at2⟩ := x
        obtain ⟨nm, dg, gs⟩ := x
        simp only at HE HR hxl Hg2 hv
        have hbx := Box3.new w2 (.string nm) (.int .i64 dg) v 46
        have hv1 : v.oneCell' = true := by rw [hv]; rfl
        have hown2 := HS.out.own.kept Hg2.out.1 (by omega)
        obtain ⟨vs, hl, ho, hi⟩ := hown2
        rw [HS.out.len] at ho
        have hoA : (w2.alloc (.cells #[.string nm, .int .i64 dg, v] 46)).ownsRow (p + 1) 46 3 u9 k (cellsOf3 acc vs) := World.ownsRow.alloc ho _
        have hX : ∀ w9, (w2.alloc (.cells #[.string nm, .int .i64 dg, v] 46)).grownBy w9 u9.ownBlock → w9.cell? ⟨w2.heap.size, 0, none⟩ = some (.string nm) := fun w9 hg => (World.cell?_of_block (a := ⟨w2.heap.size, 0, none⟩) (hg.block w2.heap.size (by simp) (fun e => by
          rcases owns_blk ho with e1 | ⟨g, _, e1, _, hlt, _⟩
          · rw [e1] at e; cases e
          · rw [e1] at e; cases e; omega))).trans hbx.a0
        have hpw : p + 1 ≤ (w2.alloc (.cells #[.string nm, .int .i64 dg, v] 46)).heap.size := by have := Hg2.out.2.2.lt; simp; omega
        have HO := Lib.hid (And.intro hl (And.intro ho (And.intro hi (And.intro hoA (And.intro hX hbx)))))
        have hx0 := hbx.a0
        have hx1 := hbx.a1
        have hx2 := hbx.a2
        have hal : ∀ w9, (w2.alloc (.cells #[.string nm, .int .i64 dg, v] 46)).grownBy w9 u9.ownBlock → w2.grownBy w9 u9.ownBlock := fun w9 hg => (grown_alloc _ _ _).trans hg
        have HAL := Lib.hid hal
        have hXlt := hbx.lt
        clear hl ho hi hoA hX hbx hal c0 c1 f0 f1 q0 q1 hv
        dsimp only
        generalize w2.alloc (.cells #[.string nm, .int .i64 dg, v] 46) = wA at *
        go_upto_region 24 with (fail)
        obtain ⟨i46, hi46, hz46, hs46, hb46⟩ := info_parts Tryd.info46
        have I46 := Lib.hid (And.intro hi46 (And.intro hz46 (And.intro hs46 hb46)))
        clear hi46 hz46 hs46 hb46
        have Hbox := Lib.hid (heap_alloc_new wA (.cells #[.string nm, .int .i64 dg, v] 46))
        have g6 : (wA.alloc (.cells #[.string nm, .int .i64 dg, v] 46)).cell? ⟨w2.heap.size, 0, none⟩ = some (.string nm) := (World.cell?_of_block (w := wA) (a := ⟨w2.heap.size, 0, none⟩) (heap_alloc_old wA _ hXlt)).trans hx0
        go_region_law
          ((refine app_ent rfl (.tmp 83) (.tmp 85) rfl I46.out rfl rfl rfl HO.out.2.2.2.1 hv1 (by omega) hpw ?_; intro gg cap w1 hown1 hgrow; have g5 := HO.out.2.2.2.2.1 _ hgrow; have H9 := Lib.hid (And.intro hown1 (HAL.out _ hgrow)); clear hown1 hgrow))
        all_goals
          go_wp2
          have hrd := HS.out.next Hg2.out.1 Hg2.out.2.2 Hg2.out.2.1 HO.out.1 (by rw [HS.out.len]; exact HO.out.2.1) HO.out.2.2.1 H9.out.1 H9.out.2 hxl HR.out hkk (fun b o e => by injection e with e; have := congrArg Addr.block e; simp only at this; omega)
          go_round
          case rel => exact ⟨k + 1, at2, bit', nm, _, by omega, by go_num, rfl, hrd⟩
          case measure => simp [intOf]; omega
    · obtain rfl : k = m := by omega
      have hr := HS.out.eq
      rw [Nat.sub_self, entsA, HY.out] at hr
      by_cases hend : at_ < N
      · rw [if_pos hend] at hr
        have HR := Lib.hid hr
        clear hr
        go_wp2
        go_region_law (fail)
        all_goals
          go_wp2
          obtain ⟨d0, d1, hg⟩ := res2 c0 c1 (.int .i64 3) (.int .i64 (at_ : Int))
          have hbw := below_grown HS.out.bl hg (Nat.le_refl _)
          generalize (wr.setCell ⟨w.heap.size, 0, none⟩ (.int .i64 3)).setCell ⟨w.heap.size, 1, none⟩ (.int .i64 (at_ : Int)) = W at *
          have e0 : W.drew.cell? ⟨w.heap.size, 0, none⟩ = some (.int .i64 3) := d0
          have e1 : W.drew.cell? ⟨w.heap.size, 1, none⟩ = some (.int .i64 (at_ : Int)) := d1
          exact bodyPost_ret (v := .tuple #[.slice none 0 0, .agg #[.int .i64 3, .int .i64 (at_ : Int)]]) (by simp [results, Tryd.results16, go_sem, e0, e1]) rfl (UnpRes.bad HR.out (below_drewN hbw 1))
      · rw [if_neg hend] at hr
        have HR := Lib.hid hr
        clear hr
        go_wp2
        obtain ⟨d0, d1, hg⟩ := res2 c0 c1 (.int .i64 0) (.int .i64 0)
        generalize (wr.setCell ⟨w.heap.size, 0, none⟩ (.int .i64 0)).setCell ⟨w.heap.size, 1, none⟩ (.int .i64 0) = W at *
        exact bodyPost_ret (v := .tuple #[u9, .agg #[.int .i64 0, .int .i64 0]]) (by simp [results, Tryd.results16, go_sem, d0, d1]) rfl (UnpRes.good HR.out HS.out.own hpl HS.out.bl hg)
end Go.Proofs.YtjjjnpolhbbepaaDoor
