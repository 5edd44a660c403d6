/- CanonKnown: the law's walk: memory laid in one go; what each call answers. -/
import Derived.Test.YtjjjohmppehejaaGreatAwakeC
import Derived.Test.YtjjjohmppehejaaGreatSameC
import Derived.Test.YtjjjohmppehejaaGreatFormP
set_option linter.unusedSimpArgs false
set_option linter.unusedVariables false
namespace Go.Proofs.YtjjjohmppehejaaGreat
open Go.RowKit Plain PlainG PlainX PlainT
/-- Blocks laid one after another. -/
def allocs : World → List Obj → World
  | w, [] => w
  | w, o :: os => allocs (w.alloc o) os
theorem allocs_below : ∀ (os : List Obj) (w : World), Below w.heap.size w (allocs w os)
  | [], w => Below.refl _ _
  | o :: os, w => by
    have h1 : Below w.heap.size w (w.alloc o) := alloc_b (Below.refl _ _) _
    exact below_two h1 (allocs_below os (w.alloc o))
theorem allocs_size : ∀ (os : List Obj) (w : World), (allocs w os).heap.size = w.heap.size + os.length
  | [], w => rfl
  | o :: os, w => by rw [allocs, allocs_size os, World.size_alloc, List.length_cons]; omega
theorem allocs_at : ∀ (os : List Obj) (w : World) (i : Nat), i < os.length → (allocs w os).heap[w.heap.size + i]? = os[i]?
  | o :: os, w, 0, _ => by
    rw [allocs, Nat.add_zero, List.getElem?_cons_zero]
    rw [(allocs_below os (w.alloc o)).block w.heap.size (by simp)]
    exact World.alloc_heap_new w o
  | o :: os, w, i + 1, h => by
    rw [allocs, List.getElem?_cons_succ]
    have := allocs_at os (w.alloc o) i (by simpa using h)
    rw [World.size_alloc] at this
    rw [← this]; congr 1; omega
theorem row_heap {W : World} {b : Nat} {T : TypeId} {vs : List Value} (h : W.heap[b]? = some (.cells vs.toArray T)) (hl : vs.length ≤ 1000) : Row W (some ⟨b, 0, none⟩) vs := by
  refine ⟨by unfold maxLen; omega, fun i u hu => ⟨b, 0, rfl, (Array.getElem?_eq_some_iff.1 h).1, ?_⟩⟩
  simp [World.cell?, h, hu]
theorem ints_heap {W : World} {b : Nat} {T : TypeId} {xs : List Int} (h : W.heap[b]? = some (.cells (ints xs).toArray T)) (hl : xs.length ≤ 1000) : Ints W (some ⟨b, 0, none⟩) xs := row_heap (vs := ints xs) h (by rw [ints_len]; exact hl)
theorem edg_heap {W : World} {b : Nat} {es : List E2} (h : W.heap[b]? = some (.cells (ints (flat2 es)).toArray 58)) (hl : es.length ≤ 1000) : Edg W (some ⟨b, 0, none⟩) es := by
  have : OwnE W b 58 (.slice (some ⟨b, 0, none⟩) es.length es.length) es := by
    refine ⟨by rw [ints_len, flat2_len], .inr ⟨b, es.length, (ints (flat2 es)).toArray, rfl, Nat.le_refl _, h, Nat.le_refl _, by unfold maxLen; omega, ?_, ?_⟩⟩
    · simp [ints, flat2_len]
    · rw [List.take_of_length_le (by simp [ints, flat2_len])]
  exact this.edg (by omega)
theorem box25_heap {W : World} {b : Nat} {u v x : Value} {T : TypeId} (h : W.heap[b]? = some (.cells #[u, v, x] T)) : W.cell? ⟨b, 0, none⟩ = some u ∧ W.cell? ⟨b, 1, none⟩ = some v ∧ W.cell? ⟨b, 2, none⟩ = some x := by
  refine ⟨?_, ?_, ?_⟩ <;> simp [World.cell?, h]
theorem sameG_self : sameG gOther gOther = true := by decide +kernel
theorem kn_form : formG gPath = (gOther, 0) := by decide +kernel
theorem kn_form11 : formG gEleven = (⟨0, [], []⟩, 5) := by decide +kernel
theorem kForm {w : World} {a b : Option Addr} {c d : Nat} (he : Edg w a gPath.es) (hc : Ints w b gPath.cs) : Calls Tryz.prog 27 #[.agg #[.int .i64 3, .slice a 2 c, .slice b 3 d]] w fun r w' => ∃ a c b d, r = .returned (.tuple #[.agg #[.int .i64 3, .slice a 2 c, .slice b 3 d], .int .i64 0]) ∧ Edg w' a gOther.es ∧ Ints w' b gOther.cs ∧ Below w.heap.size w w' := by
  have := form_calls (g := gPath) (ec := c) (cc := d) he hc
  rw [kn_form] at this
  exact this.mono fun e w' ⟨a, c, b, d, h1, h2, h3, h4, _, _⟩ => ⟨a, c, b, d, h1, h2, h3, h4⟩
theorem kForm11 {w : World} {a b : Option Addr} {c d : Nat} (he : Edg w a gEleven.es) (hc : Ints w b gEleven.cs) : Calls Tryz.prog 27 #[.agg #[.int .i64 11, .slice a 0 c, .slice b 11 d]] w fun r w' => ∃ a c b d, r = .returned (.tuple #[.agg #[.int .i64 0, .slice a 0 c, .slice b 0 d], .int .i64 5]) ∧ Below w.heap.size w w' := by
  have := form_calls (g := gEleven) (ec := c) (cc := d) he hc
  rw [kn_form11] at this
  exact this.mono fun e w' ⟨a, c, b, d, h1, h2, h3, h4, _, _⟩ => ⟨a, c, b, d, h1, h4⟩
theorem kSameG {w : World} {a b a2 b2 : Option Addr} {c d c2 d2 : Nat} (he : Edg w a gOther.es) (hc : Ints w b gOther.cs) (he2 : Edg w a2 gOther.es) (hc2 : Ints w b2 gOther.cs) : Calls Tryz.prog 21 #[.agg #[.int .i64 3, .slice a 2 c, .slice b 3 d], .agg #[.int .i64 3, .slice a2 2 c2, .slice b2 3 d2]] w fun r w' => r = .returned (.bool true) ∧ Below w.heap.size w w' := by
  have := sameGraph_calls (g := gOther) (h := gOther) (c1 := c) (d1 := d) (c2 := c2) (d2 := d2) he hc he2 hc2
  rw [sameG_self] at this
  exact this
theorem kGrp {w : World} {a b : Option Addr} {c d : Nat} (he : Edg w a gPath.es) (hc : Ints w b gPath.cs) : Calls Tryz.prog 10 #[.agg #[.int .i64 3, .slice a 2 c, .slice b 3 d]] w fun r w' => ∃ a c b d, r = .returned (.tuple #[.agg #[.int .i64 3, .slice a 3 c, .slice b 3 d], .int .i64 0]) ∧ Rows w' a cPath.orbs ∧ Rows2 w' b cPath.reps ∧ Below w.heap.size w w' := by
  have := Group_calls (g := gPath) (ec := c) (cc := d) he hc
  rw [kn_grp] at this
  exact this
theorem kChain {w : World} {oa ra ob rb : Option Addr} {oc rc od rd : Nat} (h1 : Rows w oa cPath.orbs) (h2 : Rows2 w ra cPath.reps) (h3 : Rows w ob cPath.orbs) (h4 : Rows2 w rb cPath.reps) :
    Calls Tryz.prog 14 #[.agg #[.int .i64 3, .slice oa 3 oc, .slice ra 3 rc], .agg #[.int .i64 3, .slice ob 3 od, .slice rb 3 rd]] w fun e w' => e = .returned (.bool true) ∧ Below w.heap.size w w' :=
  sameChain_calls (c := cPath) h1 h2 h3 h4 (by decide)
theorem kLeaves2 {w : World} {a b : Option Addr} {c d : Nat} (he : Edg w a gPath.es) (hc : Ints w b gPath.cs) : Calls Tryz.prog 29 #[.agg #[.int .i64 3, .slice a 2 c, .slice b 3 d]] w fun r w' => r = .returned (.tuple #[.int .i64 2, .int .i64 0]) ∧ Below w.heap.size w w' := by
  have := leav_calls (g := gPath) (ec := c) (cc := d) he hc
  rw [kn_leaves2] at this
  exact this
theorem kLeaves3 {w : World} {a b : Option Addr} {c d : Nat} (he : Edg w a gRound.es) (hc : Ints w b gRound.cs) : Calls Tryz.prog 29 #[.agg #[.int .i64 4, .slice a 4 c, .slice b 4 d]] w fun r w' => r = .returned (.tuple #[.int .i64 8, .int .i64 0]) ∧ Below w.heap.size w w' := by
  have := leav_calls (g := gRound) (ec := c) (cc := d) he hc
  rw [kn_leaves3] at this
  exact this
theorem kMany2 {w : World} {a b : Option Addr} {c d : Nat} (he : Edg w a gEmpty.es) (hc : Ints w b gEmpty.cs) : Calls Tryz.prog 12 #[.agg #[.int .i64 3, .slice a 0 c, .slice b 3 d]] w fun r w' => r = .returned (.tuple #[.int .i64 6, .int .i64 0]) ∧ Below w.heap.size w w' := by
  have := Many_calls (g := gEmpty) (ec := c) (cc := d) he hc
  rw [kn_many2] at this
  exact this
theorem kMany3 {w : World} {a b : Option Addr} {c d : Nat} (he : Edg w a gRound.es) (hc : Ints w b gRound.cs) : Calls Tryz.prog 12 #[.agg #[.int .i64 4, .slice a 4 c, .slice b 4 d]] w fun r w' => r = .returned (.tuple #[.int .i64 8, .int .i64 0]) ∧ Below w.heap.size w w' := by
  have := Many_calls (g := gRound) (ec := c) (cc := d) he hc
  rw [kn_many3] at this
  exact this
theorem kMany4 {w : World} {a b : Option Addr} {c d : Nat} (he : Edg w a gNull.es) (hc : Ints w b gNull.cs) : Calls Tryz.prog 12 #[.agg #[.int .i64 0, .slice a 0 c, .slice b 0 d]] w fun r w' => r = .returned (.tuple #[.int .i64 1, .int .i64 0]) ∧ Below w.heap.size w w' := by
  have := Many_calls (g := gNull) (ec := c) (cc := d) he hc
  rw [kn_many4] at this
  exact this
theorem kMap1 {w : World} {a b a2 b2 : Option Addr} {c d c2 d2 : Nat} (he : Edg w a gPath.es) (hc : Ints w b gPath.cs) (he2 : Edg w a2 gOther.es) (hc2 : Ints w b2 gOther.cs) : Calls Tryz.prog 25 #[.agg #[.int .i64 3, .slice a 2 c, .slice b 3 d], .agg #[.int .i64 3, .slice a2 2 c2, .slice b2 3 d2]] w fun r w' => ∃ a c, r = .returned (.tuple #[.slice a 3 c, .int .i64 0]) ∧ Ints w' a [0, 2, 1] ∧ Below w.heap.size w w' := by
  have := Map_calls (g := gPath) (h := gOther) (ec := c) (cc := d) (ed := c2) (cd := d2) he hc he2 hc2
  rw [kn_map1] at this
  exact this
theorem kMap2 {w : World} {a b a2 b2 : Option Addr} {c d c2 d2 : Nat} (he : Edg w a gPath.es) (hc : Ints w b gPath.cs) (he2 : Edg w a2 gEmpty.es) (hc2 : Ints w b2 gEmpty.cs) : Calls Tryz.prog 25 #[.agg #[.int .i64 3, .slice a 2 c, .slice b 3 d], .agg #[.int .i64 3, .slice a2 0 c2, .slice b2 3 d2]] w fun r w' => ∃ a c, r = .returned (.tuple #[.slice a 0 c, .int .i64 18]) ∧ Ints w' a [] ∧ Below w.heap.size w w' := by
  have := Map_calls (g := gPath) (h := gEmpty) (ec := c) (cc := d) (ed := c2) (cd := d2) he hc he2 hc2
  rw [kn_map2] at this
  exact this
theorem kMap3 {w : World} {a b a2 b2 : Option Addr} {c d c2 d2 : Nat} (he : Edg w a gPath.es) (hc : Ints w b gPath.cs) (he2 : Edg w a2 gRound.es) (hc2 : Ints w b2 gRound.cs) : Calls Tryz.prog 25 #[.agg #[.int .i64 3, .slice a 2 c, .slice b 3 d], .agg #[.int .i64 4, .slice a2 4 c2, .slice b2 4 d2]] w fun r w' => ∃ a c, r = .returned (.tuple #[.slice a 0 c, .int .i64 18]) ∧ Ints w' a [] ∧ Below w.heap.size w w' := by
  have := Map_calls (g := gPath) (h := gRound) (ec := c) (cc := d) (ed := c2) (cd := d2) he hc he2 hc2
  rw [kn_map3] at this
  exact this
theorem kMap4 {w : World} {a b a2 b2 : Option Addr} {c d c2 d2 : Nat} (he : Edg w a gPath.es) (hc : Ints w b gPath.cs) (he2 : Edg w a2 gEleven.es) (hc2 : Ints w b2 gEleven.cs) : Calls Tryz.prog 25 #[.agg #[.int .i64 3, .slice a 2 c, .slice b 3 d], .agg #[.int .i64 11, .slice a2 0 c2, .slice b2 11 d2]] w fun r w' => ∃ a c, r = .returned (.tuple #[.slice a 0 c, .int .i64 5]) ∧ Ints w' a [] ∧ Below w.heap.size w w' := by
  have := Map_calls (g := gPath) (h := gEleven) (ec := c) (cc := d) (ed := c2) (cd := d2) he hc he2 hc2
  rw [kn_map4] at this
  exact this
theorem kMap5 {w : World} {a b a2 b2 : Option Addr} {c d c2 d2 : Nat} (he : Edg w a gEleven.es) (hc : Ints w b gEleven.cs) (he2 : Edg w a2 gNeg.es) (hc2 : Ints w b2 gNeg.cs) : Calls Tryz.prog 25 #[.agg #[.int .i64 11, .slice a 0 c, .slice b 11 d], .agg #[.int .i64 (-1), .slice a2 0 c2, .slice b2 0 d2]] w fun r w' => ∃ a c, r = .returned (.tuple #[.slice a 0 c, .int .i64 2]) ∧ Ints w' a [] ∧ Below w.heap.size w w' := by
  have := Map_calls (g := gEleven) (h := gNeg) (ec := c) (cc := d) (ed := c2) (cd := d2) he hc he2 hc2
  rw [kn_map5] at this
  exact this
theorem pw_nil {α β : Type} {P : α → β → Prop} : ∀ (i : Nat) u v, ([] : List α)[i]? = some u → ([] : List β)[i]? = some v → P u v := fun i u v h => by simp at h
theorem pw_cons {α β : Type} {P : α → β → Prop} {u : α} {us : List α} {v : β} {vs : List β} (h : P u v) (t : ∀ (i : Nat) u v, us[i]? = some u → vs[i]? = some v → P u v) : ∀ (i : Nat) x y, (u :: us)[i]? = some x → (v :: vs)[i]? = some y → P x y
  | 0, x, y, hx, hy => by rw [List.getElem?_cons_zero] at hx hy; cases hx; cases hy; exact h
  | i + 1, x, y, hx, hy => t i x y (by simpa using hx) (by simpa using hy)
theorem isI {W : World} {b n c : Nat} {T : TypeId} {xs : List Int} (h : W.heap[b]? = some (.cells (ints xs).toArray T)) (hl : xs.length ≤ 1000) (hn : xs.length = n) : IsInts W (.slice (some ⟨b, 0, none⟩) n c) xs := ⟨_, _, by rw [hn], ints_heap h hl⟩
theorem rows_heap {W : World} {b : Nat} {T : TypeId} {vs : List Value} {xss : List (List Int)} (h : W.heap[b]? = some (.cells vs.toArray T)) (hl : vs.length ≤ 1000) (hn : vs.length = xss.length) (hr : ∀ (i : Nat) u xs, vs[i]? = some u → xss[i]? = some xs → IsInts W u xs) : Rows W (some ⟨b, 0, none⟩) xss := ⟨vs, row_heap h hl, hn, hr⟩
theorem rows2_heap {W : World} {b : Nat} {T : TypeId} {vs : List Value} {xss : List (List (List Int))} (h : W.heap[b]? = some (.cells vs.toArray T)) (hl : vs.length ≤ 1000) (hn : vs.length = xss.length) (hr : ∀ (i : Nat) u xs, vs[i]? = some u → xss[i]? = some xs → ∃ b c, u = .slice b xs.length c ∧ Rows W b xs) : Rows2 W (some ⟨b, 0, none⟩) xss := ⟨vs, row_heap h hl, hn, hr⟩
theorem lit_orbs {W : World} {p q r s : Nat} {T1 T2 T3 T4 : TypeId} (h1 : W.heap[p]? = some (.cells #[.int .i64 0, .int .i64 2] T1)) (h2 : W.heap[q]? = some (.cells #[.int .i64 1] T2)) (h3 : W.heap[r]? = some (.cells #[.int .i64 2] T3))
    (h4 : W.heap[s]? = some (.cells #[.slice (some ⟨p, 0, none⟩) 2 2, .slice (some ⟨q, 0, none⟩) 1 1, .slice (some ⟨r, 0, none⟩) 1 1] T4)) : Rows W (some ⟨s, 0, none⟩) cPath.orbs :=
  rows_heap (vs := [_, _, _]) h4 (by simp) rfl (pw_cons (isI (xs := [0, 2]) h1 (by decide) rfl) (pw_cons (isI (xs := [1]) h2 (by decide) rfl) (pw_cons (isI (xs := [2]) h3 (by decide) rfl) pw_nil)))
theorem lit_reps {W : World} {p q r s t u v x : Nat} {T1 T2 T3 T4 T5 T6 T7 T8 : TypeId} (h1 : W.heap[p]? = some (.cells #[.int .i64 0, .int .i64 1, .int .i64 2] T1)) (h2 : W.heap[q]? = some (.cells #[.int .i64 2, .int .i64 1, .int .i64 0] T2))
    (h3 : W.heap[r]? = some (.cells #[.slice (some ⟨p, 0, none⟩) 3 3, .slice (some ⟨q, 0, none⟩) 3 3] T3)) (h4 : W.heap[s]? = some (.cells #[.int .i64 0, .int .i64 1, .int .i64 2] T4)) (h5 : W.heap[t]? = some (.cells #[.slice (some ⟨s, 0, none⟩) 3 3] T5))
    (h6 : W.heap[u]? = some (.cells #[.int .i64 0, .int .i64 1, .int .i64 2] T6)) (h7 : W.heap[v]? = some (.cells #[.slice (some ⟨u, 0, none⟩) 3 3] T7))
    (h8 : W.heap[x]? = some (.cells #[.slice (some ⟨r, 0, none⟩) 2 2, .slice (some ⟨t, 0, none⟩) 1 1, .slice (some ⟨v, 0, none⟩) 1 1] T8)) : Rows2 W (some ⟨x, 0, none⟩) cPath.reps :=
  rows2_heap (vs := [_, _, _]) h8 (by simp) rfl
    (pw_cons ⟨_, _, rfl, rows_heap (vs := [_, _]) h3 (by simp) rfl (pw_cons (isI (xs := [0, 1, 2]) h1 (by decide) rfl) (pw_cons (isI (xs := [2, 1, 0]) h2 (by decide) rfl) pw_nil))⟩
    (pw_cons ⟨_, _, rfl, rows_heap (vs := [_]) h5 (by simp) rfl (pw_cons (isI (xs := [0, 1, 2]) h4 (by decide) rfl) pw_nil)⟩
    (pw_cons ⟨_, _, rfl, rows_heap (vs := [_]) h7 (by simp) rfl (pw_cons (isI (xs := [0, 1, 2]) h6 (by decide) rfl) pw_nil)⟩ pw_nil)))
set_option maxRecDepth 100000 in
set_option maxHeartbeats 8000000 in
theorem known_calls (w0 : World) : Calls Tryz.prog 7 #[] w0 fun e w' => e = .returned (.bool true) ∧ Below w0.heap.size w0 w' := by
  obtain ⟨i3, hi3, hz3, hs3, hb3⟩ := info_parts Tryz.info3
  have I3 := Lib.hid (And.intro hi3 (And.intro hz3 (And.intro hs3 hb3)))
  clear hi3 hz3 hs3 hb3
  go_enter Tryz.func7, Tryz.ntmps7
  go_wp2_with fail
  refine (path_calls w0).mono ?_
  rintro e w1 ⟨ag, cg, bg, dg, rfl, he, hc, hb⟩
  have H1 := Lib.hid (And.intro he (And.intro hc hb))
  clear he hc hb
  obtain ⟨B, hB⟩ : ∃ B, w1.heap.size = B := ⟨_, rfl⟩
  go_upto_region 5 with (fail)
  obtain ⟨V, hV⟩ : ∃ V, V = allocs w1 [.cells #[.int .i64 3, .slice ag 2 cg, .slice bg 3 dg] 25, .cells #[.int .i64 0, .int .i64 2, .int .i64 1, .int .i64 2] 58, .cells #[.int .i64 0, .int .i64 0, .int .i64 0] 3, .cells #[.int .i64 3, .slice (some ⟨B + 1, 0, none⟩) 2 2, .slice (some ⟨B + 1 + 1, 0, none⟩) 3 3] 25, .cells #[.int .i64 0, .int .i64 0, .int .i64 0] 3, .cells #[.int .i64 3, .slice none 0 0, .slice (some ⟨B + 1 + 1 + 1 + 1, 0, none⟩) 3 3] 25, .cells #[.int .i64 0, .int .i64 1, .int .i64 0, .int .i64 3, .int .i64 1, .int .i64 2, .int .i64 2, .int .i64 3] 58, .cells #[.int .i64 0, .int .i64 0, .int .i64 0, .int .i64 0] 3, .cells #[.int .i64 4, .slice (some ⟨B + 1 + 1 + 1 + 1 + 1 + 1, 0, none⟩) 4 4, .slice (some ⟨B + 1 + 1 + 1 + 1 + 1 + 1 + 1, 0, none⟩) 4 4] 25] := ⟨_, rfl⟩
  have o0 : V.heap[B]? = some (.cells #[.int .i64 3, .slice ag 2 cg, .slice bg 3 dg] 25) := by have := allocs_at [.cells #[.int .i64 3, .slice ag 2 cg, .slice bg 3 dg] 25, .cells #[.int .i64 0, .int .i64 2, .int .i64 1, .int .i64 2] 58, .cells #[.int .i64 0, .int .i64 0, .int .i64 0] 3, .cells #[.int .i64 3, .slice (some ⟨B + 1, 0, none⟩) 2 2, .slice (some ⟨B + 1 + 1, 0, none⟩) 3 3] 25, .cells #[.int .i64 0, .int .i64 0, .int .i64 0] 3, .cells #[.int .i64 3, .slice none 0 0, .slice (some ⟨B + 1 + 1 + 1 + 1, 0, none⟩) 3 3] 25, .cells #[.int .i64 0, .int .i64 1, .int .i64 0, .int .i64 3, .int .i64 1, .int .i64 2, .int .i64 2, .int .i64 3] 58, .cells #[.int .i64 0, .int .i64 0, .int .i64 0, .int .i64 0] 3, .cells #[.int .i64 4, .slice (some ⟨B + 1 + 1 + 1 + 1 + 1 + 1, 0, none⟩) 4 4, .slice (some ⟨B + 1 + 1 + 1 + 1 + 1 + 1 + 1, 0, none⟩) 4 4] 25] w1 0 (by simp); rw [hB, ← hV] at this; exact this
  have o1 : V.heap[B + 1]? = some (.cells #[.int .i64 0, .int .i64 2, .int .i64 1, .int .i64 2] 58) := by have := allocs_at [.cells #[.int .i64 3, .slice ag 2 cg, .slice bg 3 dg] 25, .cells #[.int .i64 0, .int .i64 2, .int .i64 1, .int .i64 2] 58, .cells #[.int .i64 0, .int .i64 0, .int .i64 0] 3, .cells #[.int .i64 3, .slice (some ⟨B + 1, 0, none⟩) 2 2, .slice (some ⟨B + 1 + 1, 0, none⟩) 3 3] 25, .cells #[.int .i64 0, .int .i64 0, .int .i64 0] 3, .cells #[.int .i64 3, .slice none 0 0, .slice (some ⟨B + 1 + 1 + 1 + 1, 0, none⟩) 3 3] 25, .cells #[.int .i64 0, .int .i64 1, .int .i64 0, .int .i64 3, .int .i64 1, .int .i64 2, .int .i64 2, .int .i64 3] 58, .cells #[.int .i64 0, .int .i64 0, .int .i64 0, .int .i64 0] 3, .cells #[.int .i64 4, .slice (some ⟨B + 1 + 1 + 1 + 1 + 1 + 1, 0, none⟩) 4 4, .slice (some ⟨B + 1 + 1 + 1 + 1 + 1 + 1 + 1, 0, none⟩) 4 4] 25] w1 1 (by simp); rw [hB, ← hV] at this; exact this
  have o2 : V.heap[B + 1 + 1]? = some (.cells #[.int .i64 0, .int .i64 0, .int .i64 0] 3) := by have := allocs_at [.cells #[.int .i64 3, .slice ag 2 cg, .slice bg 3 dg] 25, .cells #[.int .i64 0, .int .i64 2, .int .i64 1, .int .i64 2] 58, .cells #[.int .i64 0, .int .i64 0, .int .i64 0] 3, .cells #[.int .i64 3, .slice (some ⟨B + 1, 0, none⟩) 2 2, .slice (some ⟨B + 1 + 1, 0, none⟩) 3 3] 25, .cells #[.int .i64 0, .int .i64 0, .int .i64 0] 3, .cells #[.int .i64 3, .slice none 0 0, .slice (some ⟨B + 1 + 1 + 1 + 1, 0, none⟩) 3 3] 25, .cells #[.int .i64 0, .int .i64 1, .int .i64 0, .int .i64 3, .int .i64 1, .int .i64 2, .int .i64 2, .int .i64 3] 58, .cells #[.int .i64 0, .int .i64 0, .int .i64 0, .int .i64 0] 3, .cells #[.int .i64 4, .slice (some ⟨B + 1 + 1 + 1 + 1 + 1 + 1, 0, none⟩) 4 4, .slice (some ⟨B + 1 + 1 + 1 + 1 + 1 + 1 + 1, 0, none⟩) 4 4] 25] w1 2 (by simp); rw [hB, ← hV] at this; exact this
  have o3 : V.heap[B + 1 + 1 + 1]? = some (.cells #[.int .i64 3, .slice (some ⟨B + 1, 0, none⟩) 2 2, .slice (some ⟨B + 1 + 1, 0, none⟩) 3 3] 25) := by have := allocs_at [.cells #[.int .i64 3, .slice ag 2 cg, .slice bg 3 dg] 25, .cells #[.int .i64 0, .int .i64 2, .int .i64 1, .int .i64 2] 58, .cells #[.int .i64 0, .int .i64 0, .int .i64 0] 3, .cells #[.int .i64 3, .slice (some ⟨B + 1, 0, none⟩) 2 2, .slice (some ⟨B + 1 + 1, 0, none⟩) 3 3] 25, .cells #[.int .i64 0, .int .i64 0, .int .i64 0] 3, .cells #[.int .i64 3, .slice none 0 0, .slice (some ⟨B + 1 + 1 + 1 + 1, 0, none⟩) 3 3] 25, .cells #[.int .i64 0, .int .i64 1, .int .i64 0, .int .i64 3, .int .i64 1, .int .i64 2, .int .i64 2, .int .i64 3] 58, .cells #[.int .i64 0, .int .i64 0, .int .i64 0, .int .i64 0] 3, .cells #[.int .i64 4, .slice (some ⟨B + 1 + 1 + 1 + 1 + 1 + 1, 0, none⟩) 4 4, .slice (some ⟨B + 1 + 1 + 1 + 1 + 1 + 1 + 1, 0, none⟩) 4 4] 25] w1 3 (by simp); rw [hB, ← hV] at this; exact this
  have o4 : V.heap[B + 1 + 1 + 1 + 1]? = some (.cells #[.int .i64 0, .int .i64 0, .int .i64 0] 3) := by have := allocs_at [.cells #[.int .i64 3, .slice ag 2 cg, .slice bg 3 dg] 25, .cells #[.int .i64 0, .int .i64 2, .int .i64 1, .int .i64 2] 58, .cells #[.int .i64 0, .int .i64 0, .int .i64 0] 3, .cells #[.int .i64 3, .slice (some ⟨B + 1, 0, none⟩) 2 2, .slice (some ⟨B + 1 + 1, 0, none⟩) 3 3] 25, .cells #[.int .i64 0, .int .i64 0, .int .i64 0] 3, .cells #[.int .i64 3, .slice none 0 0, .slice (some ⟨B + 1 + 1 + 1 + 1, 0, none⟩) 3 3] 25, .cells #[.int .i64 0, .int .i64 1, .int .i64 0, .int .i64 3, .int .i64 1, .int .i64 2, .int .i64 2, .int .i64 3] 58, .cells #[.int .i64 0, .int .i64 0, .int .i64 0, .int .i64 0] 3, .cells #[.int .i64 4, .slice (some ⟨B + 1 + 1 + 1 + 1 + 1 + 1, 0, none⟩) 4 4, .slice (some ⟨B + 1 + 1 + 1 + 1 + 1 + 1 + 1, 0, none⟩) 4 4] 25] w1 4 (by simp); rw [hB, ← hV] at this; exact this
  have o5 : V.heap[B + 1 + 1 + 1 + 1 + 1]? = some (.cells #[.int .i64 3, .slice none 0 0, .slice (some ⟨B + 1 + 1 + 1 + 1, 0, none⟩) 3 3] 25) := by have := allocs_at [.cells #[.int .i64 3, .slice ag 2 cg, .slice bg 3 dg] 25, .cells #[.int .i64 0, .int .i64 2, .int .i64 1, .int .i64 2] 58, .cells #[.int .i64 0, .int .i64 0, .int .i64 0] 3, .cells #[.int .i64 3, .slice (some ⟨B + 1, 0, none⟩) 2 2, .slice (some ⟨B + 1 + 1, 0, none⟩) 3 3] 25, .cells #[.int .i64 0, .int .i64 0, .int .i64 0] 3, .cells #[.int .i64 3, .slice none 0 0, .slice (some ⟨B + 1 + 1 + 1 + 1, 0, none⟩) 3 3] 25, .cells #[.int .i64 0, .int .i64 1, .int .i64 0, .int .i64 3, .int .i64 1, .int .i64 2, .int .i64 2, .int .i64 3] 58, .cells #[.int .i64 0, .int .i64 0, .int .i64 0, .int .i64 0] 3, .cells #[.int .i64 4, .slice (some ⟨B + 1 + 1 + 1 + 1 + 1 + 1, 0, none⟩) 4 4, .slice (some ⟨B + 1 + 1 + 1 + 1 + 1 + 1 + 1, 0, none⟩) 4 4] 25] w1 5 (by simp); rw [hB, ← hV] at this; exact this
  have o6 : V.heap[B + 1 + 1 + 1 + 1 + 1 + 1]? = some (.cells #[.int .i64 0, .int .i64 1, .int .i64 0, .int .i64 3, .int .i64 1, .int .i64 2, .int .i64 2, .int .i64 3] 58) := by have := allocs_at [.cells #[.int .i64 3, .slice ag 2 cg, .slice bg 3 dg] 25, .cells #[.int .i64 0, .int .i64 2, .int .i64 1, .int .i64 2] 58, .cells #[.int .i64 0, .int .i64 0, .int .i64 0] 3, .cells #[.int .i64 3, .slice (some ⟨B + 1, 0, none⟩) 2 2, .slice (some ⟨B + 1 + 1, 0, none⟩) 3 3] 25, .cells #[.int .i64 0, .int .i64 0, .int .i64 0] 3, .cells #[.int .i64 3, .slice none 0 0, .slice (some ⟨B + 1 + 1 + 1 + 1, 0, none⟩) 3 3] 25, .cells #[.int .i64 0, .int .i64 1, .int .i64 0, .int .i64 3, .int .i64 1, .int .i64 2, .int .i64 2, .int .i64 3] 58, .cells #[.int .i64 0, .int .i64 0, .int .i64 0, .int .i64 0] 3, .cells #[.int .i64 4, .slice (some ⟨B + 1 + 1 + 1 + 1 + 1 + 1, 0, none⟩) 4 4, .slice (some ⟨B + 1 + 1 + 1 + 1 + 1 + 1 + 1, 0, none⟩) 4 4] 25] w1 6 (by simp); rw [hB, ← hV] at this; exact this
  have o7 : V.heap[B + 1 + 1 + 1 + 1 + 1 + 1 + 1]? = some (.cells #[.int .i64 0, .int .i64 0, .int .i64 0, .int .i64 0] 3) := by have := allocs_at [.cells #[.int .i64 3, .slice ag 2 cg, .slice bg 3 dg] 25, .cells #[.int .i64 0, .int .i64 2, .int .i64 1, .int .i64 2] 58, .cells #[.int .i64 0, .int .i64 0, .int .i64 0] 3, .cells #[.int .i64 3, .slice (some ⟨B + 1, 0, none⟩) 2 2, .slice (some ⟨B + 1 + 1, 0, none⟩) 3 3] 25, .cells #[.int .i64 0, .int .i64 0, .int .i64 0] 3, .cells #[.int .i64 3, .slice none 0 0, .slice (some ⟨B + 1 + 1 + 1 + 1, 0, none⟩) 3 3] 25, .cells #[.int .i64 0, .int .i64 1, .int .i64 0, .int .i64 3, .int .i64 1, .int .i64 2, .int .i64 2, .int .i64 3] 58, .cells #[.int .i64 0, .int .i64 0, .int .i64 0, .int .i64 0] 3, .cells #[.int .i64 4, .slice (some ⟨B + 1 + 1 + 1 + 1 + 1 + 1, 0, none⟩) 4 4, .slice (some ⟨B + 1 + 1 + 1 + 1 + 1 + 1 + 1, 0, none⟩) 4 4] 25] w1 7 (by simp); rw [hB, ← hV] at this; exact this
  have o8 : V.heap[B + 1 + 1 + 1 + 1 + 1 + 1 + 1 + 1]? = some (.cells #[.int .i64 4, .slice (some ⟨B + 1 + 1 + 1 + 1 + 1 + 1, 0, none⟩) 4 4, .slice (some ⟨B + 1 + 1 + 1 + 1 + 1 + 1 + 1, 0, none⟩) 4 4] 25) := by have := allocs_at [.cells #[.int .i64 3, .slice ag 2 cg, .slice bg 3 dg] 25, .cells #[.int .i64 0, .int .i64 2, .int .i64 1, .int .i64 2] 58, .cells #[.int .i64 0, .int .i64 0, .int .i64 0] 3, .cells #[.int .i64 3, .slice (some ⟨B + 1, 0, none⟩) 2 2, .slice (some ⟨B + 1 + 1, 0, none⟩) 3 3] 25, .cells #[.int .i64 0, .int .i64 0, .int .i64 0] 3, .cells #[.int .i64 3, .slice none 0 0, .slice (some ⟨B + 1 + 1 + 1 + 1, 0, none⟩) 3 3] 25, .cells #[.int .i64 0, .int .i64 1, .int .i64 0, .int .i64 3, .int .i64 1, .int .i64 2, .int .i64 2, .int .i64 3] 58, .cells #[.int .i64 0, .int .i64 0, .int .i64 0, .int .i64 0] 3, .cells #[.int .i64 4, .slice (some ⟨B + 1 + 1 + 1 + 1 + 1 + 1, 0, none⟩) 4 4, .slice (some ⟨B + 1 + 1 + 1 + 1 + 1 + 1 + 1, 0, none⟩) 4 4] 25] w1 8 (by simp); rw [hB, ← hV] at this; exact this
  have hbV : Below w1.heap.size w1 V := by rw [hV]; exact allocs_below _ _
  simp only [allocs] at hV
  rw [← hV]
  clear hV
  have HV := Lib.hid (And.intro (H1.out.1.below hbV) (And.intro (H1.out.2.1.below hbV) (And.intro (edg_heap (es := gOther.es) o1 (by decide)) (And.intro (ints_heap (xs := gOther.cs) o2 (by decide)) (And.intro (ints_heap (xs := gEmpty.cs) o4 (by decide)) (And.intro (edg_heap (es := gRound.es) o6 (by decide)) (And.intro (ints_heap (xs := gRound.cs) o7 (by decide)) (below_two H1.out.2.2 hbV))))))))
  have hP : ∀ W, Below V.heap.size V W → W.cell? ⟨B, 0, none⟩ = some (.int .i64 3) ∧ W.cell? ⟨B, 1, none⟩ = some (.slice ag 2 cg) ∧ W.cell? ⟨B, 2, none⟩ = some (.slice bg 3 dg) := fun W k => box25_heap ((k.block _ (Array.getElem?_eq_some_iff.1 o0).1).trans o0)
  have hO : ∀ W, Below V.heap.size V W → W.cell? ⟨B + 1 + 1 + 1, 0, none⟩ = some (.int .i64 3) ∧ W.cell? ⟨B + 1 + 1 + 1, 1, none⟩ = some (.slice (some ⟨B + 1, 0, none⟩) 2 2) ∧ W.cell? ⟨B + 1 + 1 + 1, 2, none⟩ = some (.slice (some ⟨B + 1 + 1, 0, none⟩) 3 3) := fun W k => box25_heap ((k.block _ (Array.getElem?_eq_some_iff.1 o3).1).trans o3)
  have hE : ∀ W, Below V.heap.size V W → W.cell? ⟨B + 1 + 1 + 1 + 1 + 1, 0, none⟩ = some (.int .i64 3) ∧ W.cell? ⟨B + 1 + 1 + 1 + 1 + 1, 1, none⟩ = some (.slice none 0 0) ∧ W.cell? ⟨B + 1 + 1 + 1 + 1 + 1, 2, none⟩ = some (.slice (some ⟨B + 1 + 1 + 1 + 1, 0, none⟩) 3 3) := fun W k => box25_heap ((k.block _ (Array.getElem?_eq_some_iff.1 o5).1).trans o5)
  have hR : ∀ W, Below V.heap.size V W → W.cell? ⟨B + 1 + 1 + 1 + 1 + 1 + 1 + 1 + 1, 0, none⟩ = some (.int .i64 4) ∧ W.cell? ⟨B + 1 + 1 + 1 + 1 + 1 + 1 + 1 + 1, 1, none⟩ = some (.slice (some ⟨B + 1 + 1 + 1 + 1 + 1 + 1, 0, none⟩) 4 4) ∧ W.cell? ⟨B + 1 + 1 + 1 + 1 + 1 + 1 + 1 + 1, 2, none⟩ = some (.slice (some ⟨B + 1 + 1 + 1 + 1 + 1 + 1 + 1, 0, none⟩) 4 4) := fun W k => box25_heap ((k.block _ (Array.getElem?_eq_some_iff.1 o8).1).trans o8)
  have HX := Lib.hid (And.intro hP (And.intro hO (And.intro hE hR)))
  clear hP hO hE hR o0 o1 o2 o3 o4 o5 o6 o7 o8 hbV
  have HB := Lib.hid (Below.refl V.heap.size V)
  have bx := HX.out.1 V HB.out
  obtain ⟨x00, x01, x02⟩ := bx
  go_wp2_with fail
  refine (kForm (HV.out.1.below HB.out) (HV.out.2.1.below HB.out)).mono ?_
  rintro e w2 ⟨a2, c2, b2, d2, rfl, he, hi, hw⟩
  clear x00 x01 x02
  have hal : Below w2.heap.size w2 (w2.alloc (.cells #[.int .i64 3, .slice a2 2 c2, .slice b2 3 d2] 25)) := alloc_b (Below.refl _ _) _
  have hff := World.alloc_heap_new w2 (.cells #[.int .i64 3, .slice a2 2 c2, .slice b2 3 d2] 25)
  have bx := box25_heap hff
  obtain ⟨f0, f1, f2⟩ := bx
  have HB2 := Lib.hid (below_two hw hal)
  have HF := Lib.hid (And.intro (he.below hal) (hi.below hal))
  clear he hi hw hal hff
  have bx := HX.out.2.1 (w2.alloc (.cells #[.int .i64 3, .slice a2 2 c2, .slice b2 3 d2] 25)) HB2.out
  obtain ⟨x00, x01, x02⟩ := bx
  go_wp2_with fail
  refine (kSameG HF.out.1 HF.out.2 (HV.out.2.2.1.below HB2.out) (HV.out.2.2.2.1.below HB2.out)).mono ?_
  rintro e w3 ⟨rfl, hw⟩
  have HB3 := Lib.hid (below_two HB2.out hw)
  clear hw f0 f1 f2
  clear x00 x01 x02
  have bx := HX.out.1 w3 HB3.out
  obtain ⟨x00, x01, x02⟩ := bx
  go_wp2_with fail
  refine (kLeaves2 (HV.out.1.below HB3.out) (HV.out.2.1.below HB3.out)).mono ?_
  rintro e w4 ⟨rfl, hw⟩
  have HB4 := Lib.hid (below_two HB3.out hw)
  clear hw
  clear x00 x01 x02
  have bx := HX.out.2.2.2 w4 HB4.out
  obtain ⟨x00, x01, x02⟩ := bx
  go_wp2_with fail
  refine (kLeaves3 (HV.out.2.2.2.2.2.1.below HB4.out) (HV.out.2.2.2.2.2.2.1.below HB4.out)).mono ?_
  rintro e w5 ⟨rfl, hw⟩
  have HB5 := Lib.hid (below_two HB4.out hw)
  clear hw
  clear x00 x01 x02
  have bx := HX.out.2.2.1 w5 HB5.out
  obtain ⟨x00, x01, x02⟩ := bx
  go_wp2_with fail
  refine (kMany2 (Edg.nil _) (HV.out.2.2.2.2.1.below HB5.out)).mono ?_
  rintro e w6 ⟨rfl, hw⟩
  have HB6 := Lib.hid (below_two HB5.out hw)
  clear hw
  clear x00 x01 x02
  have bx := HX.out.2.2.2 w6 HB6.out
  obtain ⟨x00, x01, x02⟩ := bx
  go_wp2_with fail
  refine (kMany3 (HV.out.2.2.2.2.2.1.below HB6.out) (HV.out.2.2.2.2.2.2.1.below HB6.out)).mono ?_
  rintro e w7 ⟨rfl, hw⟩
  have HB7 := Lib.hid (below_two HB6.out hw)
  clear hw
  clear x00 x01 x02
  have bx := HX.out.1 w7 HB7.out
  obtain ⟨x00, x01, x02⟩ := bx
  go_wp2_with fail
  refine (kGrp (HV.out.1.below HB7.out) (HV.out.2.1.below HB7.out)).mono ?_
  rintro e w8 ⟨a8, c8, b8, d8, rfl, hr1, hr2, hw⟩
  have HB8 := Lib.hid (below_two HB7.out hw)
  have HC := Lib.hid (And.intro hr1 hr2)
  clear hw hr1 hr2
  clear x00 x01 x02
  obtain ⟨D, hD⟩ : ∃ D, w8.heap.size = D := ⟨_, rfl⟩
  go_upto_region 16 with (fail)
  obtain ⟨U, hU⟩ : ∃ U, U = allocs w8 [.cells #[.int .i64 3, .slice a8 3 c8, .slice b8 3 d8] 31, .cells #[.int .i64 0, .int .i64 2] 3, .cells #[.int .i64 1] 3, .cells #[.int .i64 2] 3, .cells #[.slice (some ⟨D + 1, 0, none⟩) 2 2, .slice (some ⟨D + 1 + 1, 0, none⟩) 1 1, .slice (some ⟨D + 1 + 1 + 1, 0, none⟩) 1 1] 23, .cells #[.int .i64 0, .int .i64 1, .int .i64 2] 3, .cells #[.int .i64 2, .int .i64 1, .int .i64 0] 3, .cells #[.slice (some ⟨D + 1 + 1 + 1 + 1 + 1, 0, none⟩) 3 3, .slice (some ⟨D + 1 + 1 + 1 + 1 + 1 + 1, 0, none⟩) 3 3] 40, .cells #[.int .i64 0, .int .i64 1, .int .i64 2] 3, .cells #[.slice (some ⟨D + 1 + 1 + 1 + 1 + 1 + 1 + 1 + 1, 0, none⟩) 3 3] 40, .cells #[.int .i64 0, .int .i64 1, .int .i64 2] 3, .cells #[.slice (some ⟨D + 1 + 1 + 1 + 1 + 1 + 1 + 1 + 1 + 1 + 1, 0, none⟩) 3 3] 40, .cells #[.slice (some ⟨D + 1 + 1 + 1 + 1 + 1 + 1 + 1, 0, none⟩) 2 2, .slice (some ⟨D + 1 + 1 + 1 + 1 + 1 + 1 + 1 + 1 + 1, 0, none⟩) 1 1, .slice (some ⟨D + 1 + 1 + 1 + 1 + 1 + 1 + 1 + 1 + 1 + 1 + 1, 0, none⟩) 1 1] 43, .cells #[.int .i64 3, .slice (some ⟨D + 1 + 1 + 1 + 1, 0, none⟩) 3 3, .slice (some ⟨D + 1 + 1 + 1 + 1 + 1 + 1 + 1 + 1 + 1 + 1 + 1 + 1, 0, none⟩) 3 3] 31] := ⟨_, rfl⟩
  have o0 : U.heap[D]? = some (.cells #[.int .i64 3, .slice a8 3 c8, .slice b8 3 d8] 31) := by have := allocs_at [.cells #[.int .i64 3, .slice a8 3 c8, .slice b8 3 d8] 31, .cells #[.int .i64 0, .int .i64 2] 3, .cells #[.int .i64 1] 3, .cells #[.int .i64 2] 3, .cells #[.slice (some ⟨D + 1, 0, none⟩) 2 2, .slice (some ⟨D + 1 + 1, 0, none⟩) 1 1, .slice (some ⟨D + 1 + 1 + 1, 0, none⟩) 1 1] 23, .cells #[.int .i64 0, .int .i64 1, .int .i64 2] 3, .cells #[.int .i64 2, .int .i64 1, .int .i64 0] 3, .cells #[.slice (some ⟨D + 1 + 1 + 1 + 1 + 1, 0, none⟩) 3 3, .slice (some ⟨D + 1 + 1 + 1 + 1 + 1 + 1, 0, none⟩) 3 3] 40, .cells #[.int .i64 0, .int .i64 1, .int .i64 2] 3, .cells #[.slice (some ⟨D + 1 + 1 + 1 + 1 + 1 + 1 + 1 + 1, 0, none⟩) 3 3] 40, .cells #[.int .i64 0, .int .i64 1, .int .i64 2] 3, .cells #[.slice (some ⟨D + 1 + 1 + 1 + 1 + 1 + 1 + 1 + 1 + 1 + 1, 0, none⟩) 3 3] 40, .cells #[.slice (some ⟨D + 1 + 1 + 1 + 1 + 1 + 1 + 1, 0, none⟩) 2 2, .slice (some ⟨D + 1 + 1 + 1 + 1 + 1 + 1 + 1 + 1 + 1, 0, none⟩) 1 1, .slice (some ⟨D + 1 + 1 + 1 + 1 + 1 + 1 + 1 + 1 + 1 + 1 + 1, 0, none⟩) 1 1] 43, .cells #[.int .i64 3, .slice (some ⟨D + 1 + 1 + 1 + 1, 0, none⟩) 3 3, .slice (some ⟨D + 1 + 1 + 1 + 1 + 1 + 1 + 1 + 1 + 1 + 1 + 1 + 1, 0, none⟩) 3 3] 31] w8 0 (by simp); rw [hD, ← hU] at this; exact this
  have o1 : U.heap[D + 1]? = some (.cells #[.int .i64 0, .int .i64 2] 3) := by have := allocs_at [.cells #[.int .i64 3, .slice a8 3 c8, .slice b8 3 d8] 31, .cells #[.int .i64 0, .int .i64 2] 3, .cells #[.int .i64 1] 3, .cells #[.int .i64 2] 3, .cells #[.slice (some ⟨D + 1, 0, none⟩) 2 2, .slice (some ⟨D + 1 + 1, 0, none⟩) 1 1, .slice (some ⟨D + 1 + 1 + 1, 0, none⟩) 1 1] 23, .cells #[.int .i64 0, .int .i64 1, .int .i64 2] 3, .cells #[.int .i64 2, .int .i64 1, .int .i64 0] 3, .cells #[.slice (some ⟨D + 1 + 1 + 1 + 1 + 1, 0, none⟩) 3 3, .slice (some ⟨D + 1 + 1 + 1 + 1 + 1 + 1, 0, none⟩) 3 3] 40, .cells #[.int .i64 0, .int .i64 1, .int .i64 2] 3, .cells #[.slice (some ⟨D + 1 + 1 + 1 + 1 + 1 + 1 + 1 + 1, 0, none⟩) 3 3] 40, .cells #[.int .i64 0, .int .i64 1, .int .i64 2] 3, .cells #[.slice (some ⟨D + 1 + 1 + 1 + 1 + 1 + 1 + 1 + 1 + 1 + 1, 0, none⟩) 3 3] 40, .cells #[.slice (some ⟨D + 1 + 1 + 1 + 1 + 1 + 1 + 1, 0, none⟩) 2 2, .slice (some ⟨D + 1 + 1 + 1 + 1 + 1 + 1 + 1 + 1 + 1, 0, none⟩) 1 1, .slice (some ⟨D + 1 + 1 + 1 + 1 + 1 + 1 + 1 + 1 + 1 + 1 + 1, 0, none⟩) 1 1] 43, .cells #[.int .i64 3, .slice (some ⟨D + 1 + 1 + 1 + 1, 0, none⟩) 3 3, .slice (some ⟨D + 1 + 1 + 1 + 1 + 1 + 1 + 1 + 1 + 1 + 1 + 1 + 1, 0, none⟩) 3 3] 31] w8 1 (by simp); rw [hD, ← hU] at this; exact this
  have o2 : U.heap[D + 1 + 1]? = some (.cells #[.int .i64 1] 3) := by have := allocs_at [.cells #[.int .i64 3, .slice a8 3 c8, .slice b8 3 d8] 31, .cells #[.int .i64 0, .int .i64 2] 3, .cells #[.int .i64 1] 3, .cells #[.int .i64 2] 3, .cells #[.slice (some ⟨D + 1, 0, none⟩) 2 2, .slice (some ⟨D + 1 + 1, 0, none⟩) 1 1, .slice (some ⟨D + 1 + 1 + 1, 0, none⟩) 1 1] 23, .cells #[.int .i64 0, .int .i64 1, .int .i64 2] 3, .cells #[.int .i64 2, .int .i64 1, .int .i64 0] 3, .cells #[.slice (some ⟨D + 1 + 1 + 1 + 1 + 1, 0, none⟩) 3 3, .slice (some ⟨D + 1 + 1 + 1 + 1 + 1 + 1, 0, none⟩) 3 3] 40, .cells #[.int .i64 0, .int .i64 1, .int .i64 2] 3, .cells #[.slice (some ⟨D + 1 + 1 + 1 + 1 + 1 + 1 + 1 + 1, 0, none⟩) 3 3] 40, .cells #[.int .i64 0, .int .i64 1, .int .i64 2] 3, .cells #[.slice (some ⟨D + 1 + 1 + 1 + 1 + 1 + 1 + 1 + 1 + 1 + 1, 0, none⟩) 3 3] 40, .cells #[.slice (some ⟨D + 1 + 1 + 1 + 1 + 1 + 1 + 1, 0, none⟩) 2 2, .slice (some ⟨D + 1 + 1 + 1 + 1 + 1 + 1 + 1 + 1 + 1, 0, none⟩) 1 1, .slice (some ⟨D + 1 + 1 + 1 + 1 + 1 + 1 + 1 + 1 + 1 + 1 + 1, 0, none⟩) 1 1] 43, .cells #[.int .i64 3, .slice (some ⟨D + 1 + 1 + 1 + 1, 0, none⟩) 3 3, .slice (some ⟨D + 1 + 1 + 1 + 1 + 1 + 1 + 1 + 1 + 1 + 1 + 1 + 1, 0, none⟩) 3 3] 31] w8 2 (by simp); rw [hD, ← hU] at this; exact this
  have o3 : U.heap[D + 1 + 1 + 1]? = some (.cells #[.int .i64 2] 3) := by have := allocs_at [.cells #[.int .i64 3, .slice a8 3 c8, .slice b8 3 d8] 31, .cells #[.int .i64 0, .int .i64 2] 3, .cells #[.int .i64 1] 3, .cells #[.int .i64 2] 3, .cells #[.slice (some ⟨D + 1, 0, none⟩) 2 2, .slice (some ⟨D + 1 + 1, 0, none⟩) 1 1, .slice (some ⟨D + 1 + 1 + 1, 0, none⟩) 1 1] 23, .cells #[.int .i64 0, .int .i64 1, .int .i64 2] 3, .cells #[.int .i64 2, .int .i64 1, .int .i64 0] 3, .cells #[.slice (some ⟨D + 1 + 1 + 1 + 1 + 1, 0, none⟩) 3 3, .slice (some ⟨D + 1 + 1 + 1 + 1 + 1 + 1, 0, none⟩) 3 3] 40, .cells #[.int .i64 0, .int .i64 1, .int .i64 2] 3, .cells #[.slice (some ⟨D + 1 + 1 + 1 + 1 + 1 + 1 + 1 + 1, 0, none⟩) 3 3] 40, .cells #[.int .i64 0, .int .i64 1, .int .i64 2] 3, .cells #[.slice (some ⟨D + 1 + 1 + 1 + 1 + 1 + 1 + 1 + 1 + 1 + 1, 0, none⟩) 3 3] 40, .cells #[.slice (some ⟨D + 1 + 1 + 1 + 1 + 1 + 1 + 1, 0, none⟩) 2 2, .slice (some ⟨D + 1 + 1 + 1 + 1 + 1 + 1 + 1 + 1 + 1, 0, none⟩) 1 1, .slice (some ⟨D + 1 + 1 + 1 + 1 + 1 + 1 + 1 + 1 + 1 + 1 + 1, 0, none⟩) 1 1] 43, .cells #[.int .i64 3, .slice (some ⟨D + 1 + 1 + 1 + 1, 0, none⟩) 3 3, .slice (some ⟨D + 1 + 1 + 1 + 1 + 1 + 1 + 1 + 1 + 1 + 1 + 1 + 1, 0, none⟩) 3 3] 31] w8 3 (by simp); rw [hD, ← hU] at this; exact this
  have o4 : U.heap[D + 1 + 1 + 1 + 1]? = some (.cells #[.slice (some ⟨D + 1, 0, none⟩) 2 2, .slice (some ⟨D + 1 + 1, 0, none⟩) 1 1, .slice (some ⟨D + 1 + 1 + 1, 0, none⟩) 1 1] 23) := by have := allocs_at [.cells #[.int .i64 3, .slice a8 3 c8, .slice b8 3 d8] 31, .cells #[.int .i64 0, .int .i64 2] 3, .cells #[.int .i64 1] 3, .cells #[.int .i64 2] 3, .cells #[.slice (some ⟨D + 1, 0, none⟩) 2 2, .slice (some ⟨D + 1 + 1, 0, none⟩) 1 1, .slice (some ⟨D + 1 + 1 + 1, 0, none⟩) 1 1] 23, .cells #[.int .i64 0, .int .i64 1, .int .i64 2] 3, .cells #[.int .i64 2, .int .i64 1, .int .i64 0] 3, .cells #[.slice (some ⟨D + 1 + 1 + 1 + 1 + 1, 0, none⟩) 3 3, .slice (some ⟨D + 1 + 1 + 1 + 1 + 1 + 1, 0, none⟩) 3 3] 40, .cells #[.int .i64 0, .int .i64 1, .int .i64 2] 3, .cells #[.slice (some ⟨D + 1 + 1 + 1 + 1 + 1 + 1 + 1 + 1, 0, none⟩) 3 3] 40, .cells #[.int .i64 0, .int .i64 1, .int .i64 2] 3, .cells #[.slice (some ⟨D + 1 + 1 + 1 + 1 + 1 + 1 + 1 + 1 + 1 + 1, 0, none⟩) 3 3] 40, .cells #[.slice (some ⟨D + 1 + 1 + 1 + 1 + 1 + 1 + 1, 0, none⟩) 2 2, .slice (some ⟨D + 1 + 1 + 1 + 1 + 1 + 1 + 1 + 1 + 1, 0, none⟩) 1 1, .slice (some ⟨D + 1 + 1 + 1 + 1 + 1 + 1 + 1 + 1 + 1 + 1 + 1, 0, none⟩) 1 1] 43, .cells #[.int .i64 3, .slice (some ⟨D + 1 + 1 + 1 + 1, 0, none⟩) 3 3, .slice (some ⟨D + 1 + 1 + 1 + 1 + 1 + 1 + 1 + 1 + 1 + 1 + 1 + 1, 0, none⟩) 3 3] 31] w8 4 (by simp); rw [hD, ← hU] at this; exact this
  have o5 : U.heap[D + 1 + 1 + 1 + 1 + 1]? = some (.cells #[.int .i64 0, .int .i64 1, .int .i64 2] 3) := by have := allocs_at [.cells #[.int .i64 3, .slice a8 3 c8, .slice b8 3 d8] 31, .cells #[.int .i64 0, .int .i64 2] 3, .cells #[.int .i64 1] 3, .cells #[.int .i64 2] 3, .cells #[.slice (some ⟨D + 1, 0, none⟩) 2 2, .slice (some ⟨D + 1 + 1, 0, none⟩) 1 1, .slice (some ⟨D + 1 + 1 + 1, 0, none⟩) 1 1] 23, .cells #[.int .i64 0, .int .i64 1, .int .i64 2] 3, .cells #[.int .i64 2, .int .i64 1, .int .i64 0] 3, .cells #[.slice (some ⟨D + 1 + 1 + 1 + 1 + 1, 0, none⟩) 3 3, .slice (some ⟨D + 1 + 1 + 1 + 1 + 1 + 1, 0, none⟩) 3 3] 40, .cells #[.int .i64 0, .int .i64 1, .int .i64 2] 3, .cells #[.slice (some ⟨D + 1 + 1 + 1 + 1 + 1 + 1 + 1 + 1, 0, none⟩) 3 3] 40, .cells #[.int .i64 0, .int .i64 1, .int .i64 2] 3, .cells #[.slice (some ⟨D + 1 + 1 + 1 + 1 + 1 + 1 + 1 + 1 + 1 + 1, 0, none⟩) 3 3] 40, .cells #[.slice (some ⟨D + 1 + 1 + 1 + 1 + 1 + 1 + 1, 0, none⟩) 2 2, .slice (some ⟨D + 1 + 1 + 1 + 1 + 1 + 1 + 1 + 1 + 1, 0, none⟩) 1 1, .slice (some ⟨D + 1 + 1 + 1 + 1 + 1 + 1 + 1 + 1 + 1 + 1 + 1, 0, none⟩) 1 1] 43, .cells #[.int .i64 3, .slice (some ⟨D + 1 + 1 + 1 + 1, 0, none⟩) 3 3, .slice (some ⟨D + 1 + 1 + 1 + 1 + 1 + 1 + 1 + 1 + 1 + 1 + 1 + 1, 0, none⟩) 3 3] 31] w8 5 (by simp); rw [hD, ← hU] at this; exact this
  have o6 : U.heap[D + 1 + 1 + 1 + 1 + 1 + 1]? = some (.cells #[.int .i64 2, .int .i64 1, .int .i64 0] 3) := by have := allocs_at [.cells #[.int .i64 3, .slice a8 3 c8, .slice b8 3 d8] 31, .cells #[.int .i64 0, .int .i64 2] 3, .cells #[.int .i64 1] 3, .cells #[.int .i64 2] 3, .cells #[.slice (some ⟨D + 1, 0, none⟩) 2 2, .slice (some ⟨D + 1 + 1, 0, none⟩) 1 1, .slice (some ⟨D + 1 + 1 + 1, 0, none⟩) 1 1] 23, .cells #[.int .i64 0, .int .i64 1, .int .i64 2] 3, .cells #[.int .i64 2, .int .i64 1, .int .i64 0] 3, .cells #[.slice (some ⟨D + 1 + 1 + 1 + 1 + 1, 0, none⟩) 3 3, .slice (some ⟨D + 1 + 1 + 1 + 1 + 1 + 1, 0, none⟩) 3 3] 40, .cells #[.int .i64 0, .int .i64 1, .int .i64 2] 3, .cells #[.slice (some ⟨D + 1 + 1 + 1 + 1 + 1 + 1 + 1 + 1, 0, none⟩) 3 3] 40, .cells #[.int .i64 0, .int .i64 1, .int .i64 2] 3, .cells #[.slice (some ⟨D + 1 + 1 + 1 + 1 + 1 + 1 + 1 + 1 + 1 + 1, 0, none⟩) 3 3] 40, .cells #[.slice (some ⟨D + 1 + 1 + 1 + 1 + 1 + 1 + 1, 0, none⟩) 2 2, .slice (some ⟨D + 1 + 1 + 1 + 1 + 1 + 1 + 1 + 1 + 1, 0, none⟩) 1 1, .slice (some ⟨D + 1 + 1 + 1 + 1 + 1 + 1 + 1 + 1 + 1 + 1 + 1, 0, none⟩) 1 1] 43, .cells #[.int .i64 3, .slice (some ⟨D + 1 + 1 + 1 + 1, 0, none⟩) 3 3, .slice (some ⟨D + 1 + 1 + 1 + 1 + 1 + 1 + 1 + 1 + 1 + 1 + 1 + 1, 0, none⟩) 3 3] 31] w8 6 (by simp); rw [hD, ← hU] at this; exact this
  have o7 : U.heap[D + 1 + 1 + 1 + 1 + 1 + 1 + 1]? = some (.cells #[.slice (some ⟨D + 1 + 1 + 1 + 1 + 1, 0, none⟩) 3 3, .slice (some ⟨D + 1 + 1 + 1 + 1 + 1 + 1, 0, none⟩) 3 3] 40) := by have := allocs_at [.cells #[.int .i64 3, .slice a8 3 c8, .slice b8 3 d8] 31, .cells #[.int .i64 0, .int .i64 2] 3, .cells #[.int .i64 1] 3, .cells #[.int .i64 2] 3, .cells #[.slice (some ⟨D + 1, 0, none⟩) 2 2, .slice (some ⟨D + 1 + 1, 0, none⟩) 1 1, .slice (some ⟨D + 1 + 1 + 1, 0, none⟩) 1 1] 23, .cells #[.int .i64 0, .int .i64 1, .int .i64 2] 3, .cells #[.int .i64 2, .int .i64 1, .int .i64 0] 3, .cells #[.slice (some ⟨D + 1 + 1 + 1 + 1 + 1, 0, none⟩) 3 3, .slice (some ⟨D + 1 + 1 + 1 + 1 + 1 + 1, 0, none⟩) 3 3] 40, .cells #[.int .i64 0, .int .i64 1, .int .i64 2] 3, .cells #[.slice (some ⟨D + 1 + 1 + 1 + 1 + 1 + 1 + 1 + 1, 0, none⟩) 3 3] 40, .cells #[.int .i64 0, .int .i64 1, .int .i64 2] 3, .cells #[.slice (some ⟨D + 1 + 1 + 1 + 1 + 1 + 1 + 1 + 1 + 1 + 1, 0, none⟩) 3 3] 40, .cells #[.slice (some ⟨D + 1 + 1 + 1 + 1 + 1 + 1 + 1, 0, none⟩) 2 2, .slice (some ⟨D + 1 + 1 + 1 + 1 + 1 + 1 + 1 + 1 + 1, 0, none⟩) 1 1, .slice (some ⟨D + 1 + 1 + 1 + 1 + 1 + 1 + 1 + 1 + 1 + 1 + 1, 0, none⟩) 1 1] 43, .cells #[.int .i64 3, .slice (some ⟨D + 1 + 1 + 1 + 1, 0, none⟩) 3 3, .slice (some ⟨D + 1 + 1 + 1 + 1 + 1 + 1 + 1 + 1 + 1 + 1 + 1 + 1, 0, none⟩) 3 3] 31] w8 7 (by simp); rw [hD, ← hU] at this; exact this
  have o8 : U.heap[D + 1 + 1 + 1 + 1 + 1 + 1 + 1 + 1]? = some (.cells #[.int .i64 0, .int .i64 1, .int .i64 2] 3) := by have := allocs_at [.cells #[.int .i64 3, .slice a8 3 c8, .slice b8 3 d8] 31, .cells #[.int .i64 0, .int .i64 2] 3, .cells #[.int .i64 1] 3, .cells #[.int .i64 2] 3, .cells #[.slice (some ⟨D + 1, 0, none⟩) 2 2, .slice (some ⟨D + 1 + 1, 0, none⟩) 1 1, .slice (some ⟨D + 1 + 1 + 1, 0, none⟩) 1 1] 23, .cells #[.int .i64 0, .int .i64 1, .int .i64 2] 3, .cells #[.int .i64 2, .int .i64 1, .int .i64 0] 3, .cells #[.slice (some ⟨D + 1 + 1 + 1 + 1 + 1, 0, none⟩) 3 3, .slice (some ⟨D + 1 + 1 + 1 + 1 + 1 + 1, 0, none⟩) 3 3] 40, .cells #[.int .i64 0, .int .i64 1, .int .i64 2] 3, .cells #[.slice (some ⟨D + 1 + 1 + 1 + 1 + 1 + 1 + 1 + 1, 0, none⟩) 3 3] 40, .cells #[.int .i64 0, .int .i64 1, .int .i64 2] 3, .cells #[.slice (some ⟨D + 1 + 1 + 1 + 1 + 1 + 1 + 1 + 1 + 1 + 1, 0, none⟩) 3 3] 40, .cells #[.slice (some ⟨D + 1 + 1 + 1 + 1 + 1 + 1 + 1, 0, none⟩) 2 2, .slice (some ⟨D + 1 + 1 + 1 + 1 + 1 + 1 + 1 + 1 + 1, 0, none⟩) 1 1, .slice (some ⟨D + 1 + 1 + 1 + 1 + 1 + 1 + 1 + 1 + 1 + 1 + 1, 0, none⟩) 1 1] 43, .cells #[.int .i64 3, .slice (some ⟨D + 1 + 1 + 1 + 1, 0, none⟩) 3 3, .slice (some ⟨D + 1 + 1 + 1 + 1 + 1 + 1 + 1 + 1 + 1 + 1 + 1 + 1, 0, none⟩) 3 3] 31] w8 8 (by simp); rw [hD, ← hU] at this; exact this
  have o9 : U.heap[D + 1 + 1 + 1 + 1 + 1 + 1 + 1 + 1 + 1]? = some (.cells #[.slice (some ⟨D + 1 + 1 + 1 + 1 + 1 + 1 + 1 + 1, 0, none⟩) 3 3] 40) := by have := allocs_at [.cells #[.int .i64 3, .slice a8 3 c8, .slice b8 3 d8] 31, .cells #[.int .i64 0, .int .i64 2] 3, .cells #[.int .i64 1] 3, .cells #[.int .i64 2] 3, .cells #[.slice (some ⟨D + 1, 0, none⟩) 2 2, .slice (some ⟨D + 1 + 1, 0, none⟩) 1 1, .slice (some ⟨D + 1 + 1 + 1, 0, none⟩) 1 1] 23, .cells #[.int .i64 0, .int .i64 1, .int .i64 2] 3, .cells #[.int .i64 2, .int .i64 1, .int .i64 0] 3, .cells #[.slice (some ⟨D + 1 + 1 + 1 + 1 + 1, 0, none⟩) 3 3, .slice (some ⟨D + 1 + 1 + 1 + 1 + 1 + 1, 0, none⟩) 3 3] 40, .cells #[.int .i64 0, .int .i64 1, .int .i64 2] 3, .cells #[.slice (some ⟨D + 1 + 1 + 1 + 1 + 1 + 1 + 1 + 1, 0, none⟩) 3 3] 40, .cells #[.int .i64 0, .int .i64 1, .int .i64 2] 3, .cells #[.slice (some ⟨D + 1 + 1 + 1 + 1 + 1 + 1 + 1 + 1 + 1 + 1, 0, none⟩) 3 3] 40, .cells #[.slice (some ⟨D + 1 + 1 + 1 + 1 + 1 + 1 + 1, 0, none⟩) 2 2, .slice (some ⟨D + 1 + 1 + 1 + 1 + 1 + 1 + 1 + 1 + 1, 0, none⟩) 1 1, .slice (some ⟨D + 1 + 1 + 1 + 1 + 1 + 1 + 1 + 1 + 1 + 1 + 1, 0, none⟩) 1 1] 43, .cells #[.int .i64 3, .slice (some ⟨D + 1 + 1 + 1 + 1, 0, none⟩) 3 3, .slice (some ⟨D + 1 + 1 + 1 + 1 + 1 + 1 + 1 + 1 + 1 + 1 + 1 + 1, 0, none⟩) 3 3] 31] w8 9 (by simp); rw [hD, ← hU] at this; exact this
  have o10 : U.heap[D + 1 + 1 + 1 + 1 + 1 + 1 + 1 + 1 + 1 + 1]? = some (.cells #[.int .i64 0, .int .i64 1, .int .i64 2] 3) := by have := allocs_at [.cells #[.int .i64 3, .slice a8 3 c8, .slice b8 3 d8] 31, .cells #[.int .i64 0, .int .i64 2] 3, .cells #[.int .i64 1] 3, .cells #[.int .i64 2] 3, .cells #[.slice (some ⟨D + 1, 0, none⟩) 2 2, .slice (some ⟨D + 1 + 1, 0, none⟩) 1 1, .slice (some ⟨D + 1 + 1 + 1, 0, none⟩) 1 1] 23, .cells #[.int .i64 0, .int .i64 1, .int .i64 2] 3, .cells #[.int .i64 2, .int .i64 1, .int .i64 0] 3, .cells #[.slice (some ⟨D + 1 + 1 + 1 + 1 + 1, 0, none⟩) 3 3, .slice (some ⟨D + 1 + 1 + 1 + 1 + 1 + 1, 0, none⟩) 3 3] 40, .cells #[.int .i64 0, .int .i64 1, .int .i64 2] 3, .cells #[.slice (some ⟨D + 1 + 1 + 1 + 1 + 1 + 1 + 1 + 1, 0, none⟩) 3 3] 40, .cells #[.int .i64 0, .int .i64 1, .int .i64 2] 3, .cells #[.slice (some ⟨D + 1 + 1 + 1 + 1 + 1 + 1 + 1 + 1 + 1 + 1, 0, none⟩) 3 3] 40, .cells #[.slice (some ⟨D + 1 + 1 + 1 + 1 + 1 + 1 + 1, 0, none⟩) 2 2, .slice (some ⟨D + 1 + 1 + 1 + 1 + 1 + 1 + 1 + 1 + 1, 0, none⟩) 1 1, .slice (some ⟨D + 1 + 1 + 1 + 1 + 1 + 1 + 1 + 1 + 1 + 1 + 1, 0, none⟩) 1 1] 43, .cells #[.int .i64 3, .slice (some ⟨D + 1 + 1 + 1 + 1, 0, none⟩) 3 3, .slice (some ⟨D + 1 + 1 + 1 + 1 + 1 + 1 + 1 + 1 + 1 + 1 + 1 + 1, 0, none⟩) 3 3] 31] w8 10 (by simp); rw [hD, ← hU] at this; exact this
  have o11 : U.heap[D + 1 + 1 + 1 + 1 + 1 + 1 + 1 + 1 + 1 + 1 + 1]? = some (.cells #[.slice (some ⟨D + 1 + 1 + 1 + 1 + 1 + 1 + 1 + 1 + 1 + 1, 0, none⟩) 3 3] 40) := by have := allocs_at [.cells #[.int .i64 3, .slice a8 3 c8, .slice b8 3 d8] 31, .cells #[.int .i64 0, .int .i64 2] 3, .cells #[.int .i64 1] 3, .cells #[.int .i64 2] 3, .cells #[.slice (some ⟨D + 1, 0, none⟩) 2 2, .slice (some ⟨D + 1 + 1, 0, none⟩) 1 1, .slice (some ⟨D + 1 + 1 + 1, 0, none⟩) 1 1] 23, .cells #[.int .i64 0, .int .i64 1, .int .i64 2] 3, .cells #[.int .i64 2, .int .i64 1, .int .i64 0] 3, .cells #[.slice (some ⟨D + 1 + 1 + 1 + 1 + 1, 0, none⟩) 3 3, .slice (some ⟨D + 1 + 1 + 1 + 1 + 1 + 1, 0, none⟩) 3 3] 40, .cells #[.int .i64 0, .int .i64 1, .int .i64 2] 3, .cells #[.slice (some ⟨D + 1 + 1 + 1 + 1 + 1 + 1 + 1 + 1, 0, none⟩) 3 3] 40, .cells #[.int .i64 0, .int .i64 1, .int .i64 2] 3, .cells #[.slice (some ⟨D + 1 + 1 + 1 + 1 + 1 + 1 + 1 + 1 + 1 + 1, 0, none⟩) 3 3] 40, .cells #[.slice (some ⟨D + 1 + 1 + 1 + 1 + 1 + 1 + 1, 0, none⟩) 2 2, .slice (some ⟨D + 1 + 1 + 1 + 1 + 1 + 1 + 1 + 1 + 1, 0, none⟩) 1 1, .slice (some ⟨D + 1 + 1 + 1 + 1 + 1 + 1 + 1 + 1 + 1 + 1 + 1, 0, none⟩) 1 1] 43, .cells #[.int .i64 3, .slice (some ⟨D + 1 + 1 + 1 + 1, 0, none⟩) 3 3, .slice (some ⟨D + 1 + 1 + 1 + 1 + 1 + 1 + 1 + 1 + 1 + 1 + 1 + 1, 0, none⟩) 3 3] 31] w8 11 (by simp); rw [hD, ← hU] at this; exact this
  have o12 : U.heap[D + 1 + 1 + 1 + 1 + 1 + 1 + 1 + 1 + 1 + 1 + 1 + 1]? = some (.cells #[.slice (some ⟨D + 1 + 1 + 1 + 1 + 1 + 1 + 1, 0, none⟩) 2 2, .slice (some ⟨D + 1 + 1 + 1 + 1 + 1 + 1 + 1 + 1 + 1, 0, none⟩) 1 1, .slice (some ⟨D + 1 + 1 + 1 + 1 + 1 + 1 + 1 + 1 + 1 + 1 + 1, 0, none⟩) 1 1] 43) := by have := allocs_at [.cells #[.int .i64 3, .slice a8 3 c8, .slice b8 3 d8] 31, .cells #[.int .i64 0, .int .i64 2] 3, .cells #[.int .i64 1] 3, .cells #[.int .i64 2] 3, .cells #[.slice (some ⟨D + 1, 0, none⟩) 2 2, .slice (some ⟨D + 1 + 1, 0, none⟩) 1 1, .slice (some ⟨D + 1 + 1 + 1, 0, none⟩) 1 1] 23, .cells #[.int .i64 0, .int .i64 1, .int .i64 2] 3, .cells #[.int .i64 2, .int .i64 1, .int .i64 0] 3, .cells #[.slice (some ⟨D + 1 + 1 + 1 + 1 + 1, 0, none⟩) 3 3, .slice (some ⟨D + 1 + 1 + 1 + 1 + 1 + 1, 0, none⟩) 3 3] 40, .cells #[.int .i64 0, .int .i64 1, .int .i64 2] 3, .cells #[.slice (some ⟨D + 1 + 1 + 1 + 1 + 1 + 1 + 1 + 1, 0, none⟩) 3 3] 40, .cells #[.int .i64 0, .int .i64 1, .int .i64 2] 3, .cells #[.slice (some ⟨D + 1 + 1 + 1 + 1 + 1 + 1 + 1 + 1 + 1 + 1, 0, none⟩) 3 3] 40, .cells #[.slice (some ⟨D + 1 + 1 + 1 + 1 + 1 + 1 + 1, 0, none⟩) 2 2, .slice (some ⟨D + 1 + 1 + 1 + 1 + 1 + 1 + 1 + 1 + 1, 0, none⟩) 1 1, .slice (some ⟨D + 1 + 1 + 1 + 1 + 1 + 1 + 1 + 1 + 1 + 1 + 1, 0, none⟩) 1 1] 43, .cells #[.int .i64 3, .slice (some ⟨D + 1 + 1 + 1 + 1, 0, none⟩) 3 3, .slice (some ⟨D + 1 + 1 + 1 + 1 + 1 + 1 + 1 + 1 + 1 + 1 + 1 + 1, 0, none⟩) 3 3] 31] w8 12 (by simp); rw [hD, ← hU] at this; exact this
  have o13 : U.heap[D + 1 + 1 + 1 + 1 + 1 + 1 + 1 + 1 + 1 + 1 + 1 + 1 + 1]? = some (.cells #[.int .i64 3, .slice (some ⟨D + 1 + 1 + 1 + 1, 0, none⟩) 3 3, .slice (some ⟨D + 1 + 1 + 1 + 1 + 1 + 1 + 1 + 1 + 1 + 1 + 1 + 1, 0, none⟩) 3 3] 31) := by have := allocs_at [.cells #[.int .i64 3, .slice a8 3 c8, .slice b8 3 d8] 31, .cells #[.int .i64 0, .int .i64 2] 3, .cells #[.int .i64 1] 3, .cells #[.int .i64 2] 3, .cells #[.slice (some ⟨D + 1, 0, none⟩) 2 2, .slice (some ⟨D + 1 + 1, 0, none⟩) 1 1, .slice (some ⟨D + 1 + 1 + 1, 0, none⟩) 1 1] 23, .cells #[.int .i64 0, .int .i64 1, .int .i64 2] 3, .cells #[.int .i64 2, .int .i64 1, .int .i64 0] 3, .cells #[.slice (some ⟨D + 1 + 1 + 1 + 1 + 1, 0, none⟩) 3 3, .slice (some ⟨D + 1 + 1 + 1 + 1 + 1 + 1, 0, none⟩) 3 3] 40, .cells #[.int .i64 0, .int .i64 1, .int .i64 2] 3, .cells #[.slice (some ⟨D + 1 + 1 + 1 + 1 + 1 + 1 + 1 + 1, 0, none⟩) 3 3] 40, .cells #[.int .i64 0, .int .i64 1, .int .i64 2] 3, .cells #[.slice (some ⟨D + 1 + 1 + 1 + 1 + 1 + 1 + 1 + 1 + 1 + 1, 0, none⟩) 3 3] 40, .cells #[.slice (some ⟨D + 1 + 1 + 1 + 1 + 1 + 1 + 1, 0, none⟩) 2 2, .slice (some ⟨D + 1 + 1 + 1 + 1 + 1 + 1 + 1 + 1 + 1, 0, none⟩) 1 1, .slice (some ⟨D + 1 + 1 + 1 + 1 + 1 + 1 + 1 + 1 + 1 + 1 + 1, 0, none⟩) 1 1] 43, .cells #[.int .i64 3, .slice (some ⟨D + 1 + 1 + 1 + 1, 0, none⟩) 3 3, .slice (some ⟨D + 1 + 1 + 1 + 1 + 1 + 1 + 1 + 1 + 1 + 1 + 1 + 1, 0, none⟩) 3 3] 31] w8 13 (by simp); rw [hD, ← hU] at this; exact this
  have hbU : Below w8.heap.size w8 U := by rw [hU]; exact allocs_below _ _
  simp only [allocs] at hU
  rw [← hU]
  clear hU
  have HY := Lib.hid (And.intro (HC.out.1.below hbU) (And.intro (HC.out.2.below hbU) (And.intro (lit_orbs o1 o2 o3 o4) (lit_reps o5 o6 o7 o8 o9 o10 o11 o12))))
  have hC : ∀ W, Below U.heap.size U W → W.cell? ⟨D, 0, none⟩ = some (.int .i64 3) ∧ W.cell? ⟨D, 1, none⟩ = some (.slice a8 3 c8) ∧ W.cell? ⟨D, 2, none⟩ = some (.slice b8 3 d8) := fun W k => box25_heap ((k.block _ (Array.getElem?_eq_some_iff.1 o0).1).trans o0)
  have hL : ∀ W, Below U.heap.size U W → W.cell? ⟨D + 1 + 1 + 1 + 1 + 1 + 1 + 1 + 1 + 1 + 1 + 1 + 1 + 1, 0, none⟩ = some (.int .i64 3) ∧ W.cell? ⟨D + 1 + 1 + 1 + 1 + 1 + 1 + 1 + 1 + 1 + 1 + 1 + 1 + 1, 1, none⟩ = some (.slice (some ⟨D + 1 + 1 + 1 + 1, 0, none⟩) 3 3) ∧ W.cell? ⟨D + 1 + 1 + 1 + 1 + 1 + 1 + 1 + 1 + 1 + 1 + 1 + 1 + 1, 2, none⟩ = some (.slice (some ⟨D + 1 + 1 + 1 + 1 + 1 + 1 + 1 + 1 + 1 + 1 + 1 + 1, 0, none⟩) 3 3) := fun W k => box25_heap ((k.block _ (Array.getElem?_eq_some_iff.1 o13).1).trans o13)
  have HZ := Lib.hid (And.intro hC hL)
  have HT := Lib.hid (below_two HB8.out hbU)
  have HK := Lib.hid (Below.refl U.heap.size U)
  clear hC hL hbU o0 o1 o2 o3 o4 o5 o6 o7 o8 o9 o10 o11 o12 o13
  have bx := HX.out.1 U (below_two HT.out HK.out)
  obtain ⟨x00, x01, x02⟩ := bx
  have bx := HX.out.2.1 U (below_two HT.out HK.out)
  obtain ⟨x10, x11, x12⟩ := bx
  go_wp2_with fail
  refine (kMap1 (HV.out.1.below (below_two HT.out HK.out)) (HV.out.2.1.below (below_two HT.out HK.out)) (HV.out.2.2.1.below (below_two HT.out HK.out)) (HV.out.2.2.2.1.below (below_two HT.out HK.out))).mono ?_
  rintro e w9 ⟨a9, c9, rfl, hi, hw⟩
  have HQ := Lib.hid hi
  have HK9 := Lib.hid hw
  clear hi hw
  clear x00 x01 x02 x10 x11 x12
  have bx := HX.out.1 w9 (below_two HT.out HK9.out)
  obtain ⟨x00, x01, x02⟩ := bx
  have bx := HX.out.2.2.1 w9 (below_two HT.out HK9.out)
  obtain ⟨x10, x11, x12⟩ := bx
  go_wp2_with fail
  refine (kMap2 (HV.out.1.below (below_two HT.out HK9.out)) (HV.out.2.1.below (below_two HT.out HK9.out)) (Edg.nil _) (HV.out.2.2.2.2.1.below (below_two HT.out HK9.out))).mono ?_
  rintro e w10 ⟨a10, c10, rfl, -, hw⟩
  have HQ10 := Lib.hid (HQ.out.below hw)
  have HK10 := Lib.hid (below_two HK9.out hw)
  clear hw
  clear x00 x01 x02 x10 x11 x12
  have bx := HX.out.1 w10 (below_two HT.out HK10.out)
  obtain ⟨x00, x01, x02⟩ := bx
  have bx := HX.out.2.2.2 w10 (below_two HT.out HK10.out)
  obtain ⟨x10, x11, x12⟩ := bx
  go_wp2_with fail
  refine (kMap3 (HV.out.1.below (below_two HT.out HK10.out)) (HV.out.2.1.below (below_two HT.out HK10.out)) (HV.out.2.2.2.2.2.1.below (below_two HT.out HK10.out)) (HV.out.2.2.2.2.2.2.1.below (below_two HT.out HK10.out))).mono ?_
  rintro e w11 ⟨a11, c11, rfl, -, hw⟩
  have HQ11 := Lib.hid (HQ10.out.below hw)
  have HK11 := Lib.hid (below_two HK10.out hw)
  clear hw
  clear x00 x01 x02 x10 x11 x12
  have bx := HZ.out.1 w11 HK11.out
  obtain ⟨x00, x01, x02⟩ := bx
  have bx := HZ.out.2 w11 HK11.out
  obtain ⟨x10, x11, x12⟩ := bx
  go_wp2_with fail
  refine (kChain (HY.out.1.below HK11.out) (HY.out.2.1.below HK11.out) (HY.out.2.2.1.below HK11.out) (HY.out.2.2.2.below HK11.out)).mono ?_
  rintro e w12 ⟨rfl, hw⟩
  have HQ12 := Lib.hid (HQ11.out.below hw)
  have HK12 := Lib.hid (below_two HK11.out hw)
  clear hw
  clear x00 x01 x02 x10 x11 x12
  go_wp2_with fail
  have hl : Ints (w12.alloc (.cells #[.int .i64 0, .int .i64 2, .int .i64 1] 3)) (some ⟨w12.heap.size, 0, none⟩) [0, 2, 1] := litI rfl rfl (by decide)
  have hba : Below w12.heap.size w12 (w12.alloc (.cells #[.int .i64 0, .int .i64 2, .int .i64 1] 3)) := alloc_b (Below.refl _ _) _
  refine (sameI_true a9 _ c9 3 3 [0, 2, 1] _ rfl (HQ12.out.below hba) hl).mono ?_
  rintro e w13 ⟨rfl, hw⟩
  have HK13 := Lib.hid (below_two HK12.out (below_two hba hw))
  clear hw hl hba
  go_upto_region 22 with (at_make; refine mk1 rfl _ _ 23 3 rfl i3 (.int .i64 0) 8 Tryz.underlying23 I3.out.1 I3.out.2.1 I3.out.2.2.1 I3.out.2.2.2 rfl (by omega) 0 11 rfl rfl (by omega) (Nat.zero_le _) ?_; intro w14 hd hg hz1; have hhd := Own.toInts (xs := gEleven.cs) hd (by decide); have H14 := Lib.hid (And.intro hhd (below_of_grown hg)); clear hd hg hz1 hhd)
  obtain ⟨Z, hZ⟩ : ∃ Z, Z = w14.alloc (.cells #[.int .i64 11, .slice none 0 0, .slice (some ⟨w13.heap.size, 0, none⟩) 11 11] 25) := ⟨_, rfl⟩
  rw [← hZ]
  have hZb : Below w14.heap.size w14 Z := by rw [hZ]; exact alloc_b (Below.refl _ _) _
  have hZo : Z.heap[w14.heap.size]? = some (.cells #[.int .i64 11, .slice none 0 0, .slice (some ⟨w13.heap.size, 0, none⟩) 11 11] 25) := by rw [hZ]; exact World.alloc_heap_new _ _
  clear hZ
  have HN := Lib.hid (fun (W : World) (k : Below Z.heap.size Z W) => box25_heap ((k.block _ (Array.getElem?_eq_some_iff.1 hZo).1).trans hZo))
  have HG := Lib.hid (H14.out.1.below hZb)
  have HM := Lib.hid (below_two HT.out (below_two HK13.out (below_two H14.out.2 hZb)))
  have HJ := Lib.hid (Below.refl Z.heap.size Z)
  clear hZo hZb
  have bx := HN.out Z HJ.out
  obtain ⟨x00, x01, x02⟩ := bx
  go_wp2_with fail
  refine (kForm11 (Edg.nil _) HG.out).mono ?_
  rintro e w15 ⟨a15, c15, b15, d15, rfl, hw⟩
  have HJ15 := Lib.hid hw
  clear hw
  clear x00 x01 x02
  have bx := HX.out.1 w15 (below_two HM.out HJ15.out)
  obtain ⟨x00, x01, x02⟩ := bx
  have by_ := HN.out w15 HJ15.out
  obtain ⟨y0, y1, y2⟩ := by_
  go_wp2_with fail
  refine (kMap4 (HV.out.1.below (below_two HM.out HJ15.out)) (HV.out.2.1.below (below_two HM.out HJ15.out)) (Edg.nil _) (HG.out.below HJ15.out)).mono ?_
  rintro e w16 ⟨a16, c16, rfl, -, hw⟩
  have HJ16 := Lib.hid (below_two HJ15.out hw)
  clear hw y0 y1 y2
  clear x00 x01 x02
  have bx := HN.out w16 HJ16.out
  obtain ⟨x00, x01, x02⟩ := bx
  go_wp2_with fail
  refine (kMap5 (Edg.nil _) (HG.out.below HJ16.out) (Edg.nil _) Row.nil).mono ?_
  rintro e w17 ⟨a17, c17, rfl, -, hw⟩
  have HJ17 := Lib.hid (below_two HJ16.out hw)
  clear hw
  clear x00 x01 x02
  go_wp2_with fail
  refine (kMany4 (Edg.nil _) Row.nil).mono ?_
  rintro e w18 ⟨rfl, hw⟩
  have HJ18 := Lib.hid (below_two HJ17.out hw)
  clear hw
  go_wp2_with fail
  refine (awake_calls w18).mono ?_
  rintro e w19 ⟨rfl, hw⟩
  have HJ19 := Lib.hid (below_two HJ18.out hw)
  clear hw
  go_wp2
  go_ret
  exact ⟨rfl, below_two HV.out.2.2.2.2.2.2.2 (below_two HM.out HJ19.out)⟩
end Go.Proofs.YtjjjohmppehejaaGreat
