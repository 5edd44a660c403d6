/- The example: awake answers true. -/
import Derived.Test.YtjjjnpolhbbepaaDoorLarge
import Derived.Test.YtjjjnpolhbbepaaDoorSame
import Derived.Test.YtjjjnpolhbbepaaDoorPack
import Derived.Test.YtjjjnpolhbbepaaDoorUnpack
import Derived.Test.YtjjjnpolhbbepaaDoorPlainTrip
set_option linter.unusedSimpArgs false
set_option linter.unusedVariables false
namespace Go.Proofs.YtjjjnpolhbbepaaDoor
open Go.RowKit
open Plain
def IsRing (w w' : World) (e : Ending) : Prop := ∃ g, e = .returned (.agg #[.int .i64 3, .slice (some ⟨g, 0, none⟩) 1 1]) ∧ Rows w' (some ⟨g, 0, none⟩) [[1, 2, 0]] ∧ Below w.heap.size w w'
theorem ring_calls (w : World) : Calls Tryd.prog 21 #[] w fun e w' => IsRing w w' e := by
  go_enter Tryd.func21, Tryd.ntmps21
  go_wp2
  have hb : Below w.heap.size w (((w.alloc (.cells #[.int .i64 3, .slice (some ⟨w.heap.size + 1 + 1, 0, none⟩) 1 1] 44)).alloc (.cells #[.int .i64 1, .int .i64 2, .int .i64 0] 3)).alloc (.cells #[.slice (some ⟨w.heap.size + 1, 0, none⟩) 3 3] 57)) :=
    (((Below.refl _ _).alloc (Nat.le_refl _) _).alloc (by simp) _).alloc (by simp; omega) _
  have h2 : (((w.alloc (.cells #[.int .i64 3, .slice (some ⟨w.heap.size + 1 + 1, 0, none⟩) 1 1] 44)).alloc (.cells #[.int .i64 1, .int .i64 2, .int .i64 0] 3)).alloc (.cells #[.slice (some ⟨w.heap.size + 1, 0, none⟩) 3 3] 57)).heap[w.heap.size + 1 + 1]? = some (.cells #[.slice (some ⟨w.heap.size + 1, 0, none⟩) 3 3] 57) := by
    have := heap_alloc_new ((w.alloc (.cells #[.int .i64 3, .slice (some ⟨w.heap.size + 1 + 1, 0, none⟩) 1 1] 44)).alloc (.cells #[.int .i64 1, .int .i64 2, .int .i64 0] 3)) (.cells #[.slice (some ⟨w.heap.size + 1, 0, none⟩) 3 3] 57)
    simpa only [World.size_alloc] using this
  have h1 : (((w.alloc (.cells #[.int .i64 3, .slice (some ⟨w.heap.size + 1 + 1, 0, none⟩) 1 1] 44)).alloc (.cells #[.int .i64 1, .int .i64 2, .int .i64 0] 3)).alloc (.cells #[.slice (some ⟨w.heap.size + 1, 0, none⟩) 3 3] 57)).heap[w.heap.size + 1]? = some (.cells #[.int .i64 1, .int .i64 2, .int .i64 0] 3) := by
    have := heap_alloc_new (w.alloc (.cells #[.int .i64 3, .slice (some ⟨w.heap.size + 1 + 1, 0, none⟩) 1 1] 44)) (.cells #[.int .i64 1, .int .i64 2, .int .i64 0] 3)
    exact (heap_alloc_old _ _ (by simp)).trans (by simpa only [World.size_alloc] using this)
  have hr : Rows (((w.alloc (.cells #[.int .i64 3, .slice (some ⟨w.heap.size + 1 + 1, 0, none⟩) 1 1] 44)).alloc (.cells #[.int .i64 1, .int .i64 2, .int .i64 0] 3)).alloc (.cells #[.slice (some ⟨w.heap.size + 1, 0, none⟩) 3 3] 57)) (some ⟨w.heap.size + 1 + 1, 0, none⟩) [[1, 2, 0]] := by
    refine ⟨[.slice (some ⟨w.heap.size + 1, 0, none⟩) 3 3], ⟨by simp; unfold maxLen; omega, fun i u hu => ?_⟩, rfl, fun i u xs hu hx => ?_⟩
    · match i, hu with
      | 0, hu => simp at hu; subst hu; exact ⟨_, _, rfl, by simp, by rw [cell_of_row _ _ _ _ _ _ h2]; rfl⟩
    · match i, hu, hx with
      | 0, hu, hx =>
        simp at hu hx
        subst hu; subst hx
        refine ⟨_, _, rfl, ⟨by simp; unfold maxLen; omega, fun i u hu => ?_⟩, Nat.le_refl _⟩
        match i, hu with
        | 0, hu => simp at hu; subst hu; exact ⟨_, _, rfl, by simp, by rw [cell_of_row _ _ _ _ _ _ h1]; rfl⟩
        | 1, hu => simp at hu; subst hu; exact ⟨_, _, rfl, by simp, by rw [cell_of_row _ _ _ _ _ _ h1]; rfl⟩
        | 2, hu => simp at hu; subst hu; exact ⟨_, _, rfl, by simp, by rw [cell_of_row _ _ _ _ _ _ h1]; rfl⟩
  exact bodyPost_ret (v := .agg #[.int .i64 3, .slice (some ⟨w.heap.size + 1 + 1, 0, none⟩) 1 1]) (by simp [results, Tryd.results21, go_sem]) rfl ⟨_, rfl, hr, hb⟩
def pk : List Nat := [67, 71, 76, 49, 0, 1, 2, 122, 51, 3, 1, 96]
def IsByts (w w' : World) (xs : List Nat) (e : Ending) : Prop := ∃ a c, e = .returned (.slice a xs.length c) ∧ Byts w' a xs ∧ xs.length ≤ c ∧ Below w.heap.size w w'
theorem packed_calls (w : World) : Calls Tryd.prog 23 #[] w fun e w' => IsByts w w' pk e := by
  go_enter Tryd.func23, Tryd.ntmps23
  go_wp2
  go_ret
  have ho : Own (w.alloc (.cells (byts pk).toArray 5)) w.heap.size (.slice (some ⟨w.heap.size, 0, none⟩) (byts pk).length (byts pk).length) 5 (byts pk) := Own.new 5 (byts pk) (Nat.le_refl _) (by simp [byts, pk]; unfold maxLen; omega)
  exact ⟨_, _, rfl, Row.of_own (n := (byts pk).length) ho (by simp [byts, pk]; unfold maxLen; omega), Nat.le_refl _, (Below.refl _ _).alloc (Nat.le_refl _) _⟩
set_option maxRecDepth 100000 in
set_option maxHeartbeats 1000000 in
theorem closed_calls {w : World} {a : Option Addr} {c : Nat} {xs : List Nat} (h : Byts w a xs) (hx : ∀ x ∈ xs, x < 256) (hl : xs.length ≤ 1000) (h0 : 0 < xs.length) :
    Calls Tryd.prog 22 #[.slice a xs.length c] w fun e w' => IsByts w w' (xs ++ four (sumB xs)) e := by
  have H := Lib.hid (And.intro h hx)
  obtain ⟨n, hn⟩ : ∃ n, xs.length = n := ⟨_, rfl⟩
  rw [hn] at hl h0 ⊢
  have Hn := Lib.hid hn
  clear h hx hn
  go_enter Tryd.func22, Tryd.ntmps22
  go_wp2
  go_loopw [3, 4] (fun s i wr => ∃ k : Nat, k ≤ n ∧ i = .int .i64 (k : Int) ∧ s = .int .u32 ((sumTo 7 (xs.take k) : Nat) : Int) ∧ wr = w) (fun _ i _ => n - (intOf i).toNat)
  case atStart => exact ⟨0, Nat.zero_le _, rfl, rfl, rfl⟩
  case round =>
    obtain ⟨k, hk, rfl, rfl, rfl⟩ := hrel
    by_cases hlt : k < n
    · obtain ⟨b, o, rfl, hb, hc⟩ := H.out.1.at_ (k := k) (by rw [Hn.out]; exact hlt)
      have hs := sumTo_snoc 7 xs k (by rw [Hn.out]; exact hlt)
      have hx : xs[k]?.getD 0 < 256 := by rw [List.getElem?_eq_getElem (by rw [Hn.out]; exact hlt)]; exact H.out.2 _ (List.getElem_mem _)
      have hsl := sumTo_lt (h := 7) (by omega) (xs.take k)
      obtain ⟨x, hxe⟩ : ∃ x, xs[k]?.getD 0 = x := ⟨_, rfl⟩
      rw [hxe] at hc hx hs
      obtain ⟨s, hse⟩ : ∃ s, sumTo 7 (xs.take k) = s := ⟨_, rfl⟩
      rw [hse] at hs hsl ⊢
      have HS := Lib.hid hs
      clear hs hxe hse
      go_wp2
      go_round
      case rel =>
        refine ⟨k + 1, by omega, by go_num, ?_, trivial⟩
        rw [HS.out]
        exact congrArg _ (by omega)
      case measure => simp [intOf]; omega
    · obtain rfl : k = n := by omega
      have e : xs.take k = xs := List.take_of_length_le (by rw [Hn.out]; exact Nat.le_refl _)
      rw [e]
      clear e
      obtain ⟨S, hS⟩ : ∃ S, sumTo 7 xs = S := ⟨_, rfl⟩
      have hSl : S < 4294967296 := by rw [← hS]; exact sumTo_lt (by omega) _
      rw [hS]
      have hS' : sumB xs = S := hS
      obtain ⟨b, o, rfl, hb, _⟩ := H.out.1.at_ (k := 0) (by rw [Hn.out]; exact h0)
      obtain ⟨i5, hi5, hz5, hs5, hb5⟩ := info_parts Tryd.info5
      have I5 := Lib.hid (And.intro hi5 (And.intro hz5 (And.intro hs5 hb5)))
      have ho0 : Own (wr.alloc (.cells #[] 5)) wr.heap.size (.slice (some ⟨wr.heap.size, 0, none⟩) 0 0) 5 [] := Own.new 5 [] (Nat.le_refl _) (by simp)
      have hsrc : ∀ j y, (byts xs)[j]? = some y → (wr.alloc (.cells #[] 5)).cell? ⟨b, o + j, none⟩ = some y := fun j y hy => by
        obtain ⟨b', o', e, hb', hc⟩ := H.out.1.2 j y hy
        injection e with e
        injection e with e1 e2
        subst e1; subst e2
        exact (World.cell?_of_block (w := wr) (a := ⟨b, o + j, none⟩) (heap_alloc_old wr _ hb)).trans hc
      have HO := Lib.hid (And.intro ho0 hsrc)
      have Hl : Hid ((byts xs).length = k) := Lib.hid (by rw [byts_len]; exact Hn.out)
      have HSS := Lib.hid hS'
      clear hi5 hz5 hs5 hb5 ho0 hsrc hS hS'
      go_wp2_with (at_builtin; first | (refine appN rfl (.tmp 19) (.tmp 20) 23 5 rfl i5 (.int .u8 0) 1 Tryd.underlying23 I5.out.1 I5.out.2.1 I5.out.2.2.1 I5.out.2.2.2 rfl (by omega) wr.heap.size (.slice (some ⟨wr.heap.size, 0, none⟩) 0 0) [] (byts xs) rfl HO.out.1 b o k c rfl Hl.out HO.out.2 (byts_one xs) (by simp; omega) (by simp) ?_; intro v1 w1 h2 h3 h4; rw [List.nil_append] at h2; obtain ⟨G, cap, rfl, hG, hG2, hc1, hc2⟩ := h2.form (by rw [Hl.out]; exact h0); rw [Hl.out] at h2 h4 hc1 ⊢; have hw1 := h3.size; rw [World.size_alloc] at hw1; have hn4 := World.news_of_block (heap_alloc_new w1 (.cells #[.int .u8 ((S : Int) / 16777216), .int .u8 ((S : Int) / 65536 % 256), .int .u8 ((S : Int) / 256 % 256), .int .u8 ((S : Int) % 256)] 5)); have H1 := Lib.hid (And.intro h2 (And.intro h3 hn4)); clear h2 h3 h4 hn4) | (refine appN rfl (.tmp 21) (.tmp 33) 23 5 rfl i5 (.int .u8 0) 1 Tryd.underlying23 I5.out.1 I5.out.2.1 I5.out.2.2.1 I5.out.2.2.2 rfl (by omega) wr.heap.size (.slice (some ⟨G, 0, none⟩) k cap) (byts xs) [.int .u8 ((S : Int) / 16777216), .int .u8 ((S : Int) / 65536 % 256), .int .u8 ((S : Int) / 256 % 256), .int .u8 ((S : Int) % 256)] rfl (H1.out.1.alloc _) w1.heap.size 0 4 4 rfl rfl (fun j y hy => by have := H1.out.2.2 j y hy; rw [add_zero_addr] at this; exact this) (by intro y hy; simp only [List.mem_cons, List.not_mem_nil, or_false] at hy; rcases hy with rfl | rfl | rfl | rfl <;> rfl) (by rw [Hl.out]; omega) (by rw [World.size_alloc]; omega) ?_; intro v2 w2 h2 h3 h4; have H2 := Lib.hid (And.intro h2 (And.intro h3 h4)); clear h2 h3 h4))
      go_ret
      have hbb : byts xs ++ [.int .u8 ((S : Int) / 16777216), .int .u8 ((S : Int) / 65536 % 256), .int .u8 ((S : Int) / 256 % 256), .int .u8 ((S : Int) % 256)] = byts (xs ++ four (sumB xs)) := by
        rw [HSS.out, byts_app]
        congr 1
        simp only [byts, four, List.map_cons, List.map_nil, List.cons.injEq, Value.int.injEq, true_and, and_true]
        omega
      have ho := H2.out.1
      rw [hbb] at ho
      have hlen : (byts (xs ++ four (sumB xs))).length = (xs ++ four (sumB xs)).length := byts_len _
      have hsmall : (xs ++ four (sumB xs)).length ≤ 1004 := by rw [List.length_append, four_len, Hn.out]; omega
      obtain ⟨G2, cap2, rfl, _, _, hcc, _⟩ := ho.form (by rw [hlen, List.length_append, four_len]; omega)
      rw [hlen] at ho hcc ⊢
      refine ⟨_, _, rfl, Row.of_own (n := (byts (xs ++ four (sumB xs))).length) (by have := ho; unfold Own at this; rw [hlen] at this ⊢; exact this) (by rw [hlen]; unfold maxLen; omega), hcc, ?_⟩
      have b1 := below_grownO (w := wr) ((Below.refl _ _).alloc (Nat.le_refl _) _) H1.out.2.1 (fun q e => by cases e; exact Nat.le_refl _)
      exact below_grownO (b1.alloc b1.size _) H2.out.2.1 (fun q e => by cases e; exact hG)
def lz : Ent := ⟨⟨#[122, 51]⟩, 3, [[1, 2, 0]]⟩
theorem lz_chk : chk [lz] = 0 := by decide +kernel
theorem lz_pack : packAll [lz] = pk ++ four (sumB pk) := by decide +kernel
theorem cells3_get : ∀ (es : List Ent) (vs : List Value) (i : Nat) (e : Ent) (u : Value), es[i]? = some e → vs[i]? = some u →
    (cellsOf3 es vs)[i * 3]? = some (.string e.name) ∧ (cellsOf3 es vs)[i * 3 + 1]? = some (.int .i64 e.deg) ∧ (cellsOf3 es vs)[i * 3 + 2]? = some u
  | [], _, i, e, u, he, hu => by simp at he
  | _ :: _, [], i, e, u, he, hu => by simp at hu
  | e0 :: es, u0 :: vs, 0, e, u, he, hu => by
    simp at he hu
    subst he; subst hu
    exact ⟨rfl, rfl, rfl⟩
  | e0 :: es, u0 :: vs, i + 1, e, u, he, hu => by
    simp at he hu
    have h := cells3_get es vs i e u he hu
    have hc : cellsOf3 (e0 :: es) (u0 :: vs) = .string e0.name :: .int .i64 e0.deg :: u0 :: cellsOf3 es vs := rfl
    rw [hc]
    refine ⟨?_, ?_, ?_⟩
    · rw [show (i + 1) * 3 = i * 3 + 1 + 1 + 1 by omega]; exact h.1
    · rw [show (i + 1) * 3 + 1 = i * 3 + 1 + 1 + 1 + 1 by omega]; exact h.2.1
    · rw [show (i + 1) * 3 + 2 = i * 3 + 2 + 1 + 1 + 1 by omega]; exact h.2.2
def Small (es : List Ent) : Prop := es.length ≤ 1000 ∧ ∀ e ∈ es, e.name.size ≤ 1000 ∧ e.gens.length ≤ 1000 ∧ ∀ p ∈ e.gens, p.length ≤ 1000
theorem OwnEnts.ents {w : World} {B : Nat} {v : Value} {es : List Ent} (h : OwnEnts w B v es) (hs : Small es) : ∃ a c, v = .slice a es.length c ∧ Ents w a es := by
  obtain ⟨vs, hl, ho, hi⟩ := h
  obtain ⟨hs1, hs2⟩ := hs
  rcases ho.2 with ⟨rfl, h0⟩ | ⟨g, cap, cur, rfl, hB, hh, hnc, hcm, hsz, hcells⟩
  · have : es = [] := List.eq_nil_of_length_eq_zero h0
    subst this
    exact ⟨none, 0, rfl, by simp, by simp, fun i e he => by simp at he⟩
  · refine ⟨_, _, rfl, by omega, fun e he => by have := (hs2 e he).1; omega, fun i e he => ?_⟩
    have hlt : i < es.length := (List.getElem?_eq_some_iff.1 he).1
    obtain ⟨u, hu⟩ : ∃ u, vs[i]? = some u := ⟨_, List.getElem?_eq_getElem (by omega)⟩
    obtain ⟨c1, c2, c3⟩ := cells3_get es vs i e u he hu
    have hc := fun j y (hy : (cellsOf3 es vs)[j]? = some y) => by
      have := ho.cells (g := g) rfl j y hy
      rw [add_zero_addr, Nat.zero_add] at this
      exact this
    obtain ⟨cs, ho1, ho2⟩ := hi i e u he hu
    have hem := hs2 e (List.mem_of_getElem? he)
    obtain ⟨a', c', rfl, hr⟩ := ho2.rows ho1 (by rw [ho2.1]; unfold maxLen; omega) (fun xs hx => by have := hem.2.2 xs hx; unfold maxLen; omega)
    have hgl : g < w.heap.size := by
      rcases Nat.lt_or_ge g w.heap.size with hl | hl
      · exact hl
      · rw [Array.getElem?_eq_none hl] at hh; cases hh
    exact ⟨g, 0, a', c', rfl, hgl, by rw [Nat.zero_add]; exact hc _ _ c1, by rw [Nat.zero_add]; exact hc _ _ c2, by rw [Nat.zero_add]; exact hc _ _ c3, hr⟩
theorem lz_small : Small [lz] := by
  refine ⟨by simp, fun e he => ?_⟩
  simp at he
  subst he
  refine ⟨by decide, by decide, fun p hp => ?_⟩
  simp [lz] at hp
  subst hp
  decide
theorem lz_ents {w : World} {g : Nat} (h : Rows w (some ⟨g, 0, none⟩) [[1, 2, 0]]) :
    Ents (w.alloc (.cells #[.string ⟨#[122, 51]⟩, .int .i64 3, .slice (some ⟨g, 0, none⟩) 1 1] 46)) (some ⟨w.heap.size, 0, none⟩) [lz] := by
  have hn := heap_alloc_new w (.cells #[.string ⟨#[122, 51]⟩, .int .i64 3, .slice (some ⟨g, 0, none⟩) 1 1] 46)
  have hb : Below w.heap.size w (w.alloc (.cells #[.string ⟨#[122, 51]⟩, .int .i64 3, .slice (some ⟨g, 0, none⟩) 1 1] 46)) := (Below.refl _ _).alloc (Nat.le_refl _) _
  refine ⟨by simp, fun e he => ?_, fun i e he => ?_⟩
  · have := (lz_small.2 e he).1; omega
  · match i, he with
    | 0, he =>
      simp at he
      subst he
      exact ⟨_, _, _, _, rfl, by rw [World.size_alloc]; omega, by rw [cell_of_row _ _ _ _ _ _ hn]; rfl, by rw [cell_of_row _ _ _ _ _ _ hn]; rfl, by rw [cell_of_row _ _ _ _ _ _ hn]; rfl, h.below hb⟩
theorem pk_lt : ∀ x ∈ pk, x < 256 := by decide
theorem one_byts (w : World) : Byts (w.alloc (.cells #[.int .u8 1] 5)) (some ⟨w.heap.size, 0, none⟩) [1] := by
  have hn := heap_alloc_new w (.cells #[.int .u8 1] 5)
  refine ⟨by simp [byts]; unfold maxLen; omega, fun i u hu => ?_⟩
  match i, hu with
  | 0, hu =>
    simp [byts] at hu
    subst hu
    exact ⟨_, _, rfl, by rw [World.size_alloc]; omega, by rw [cell_of_row _ _ _ _ _ _ hn]; rfl⟩
set_option maxRecDepth 100000 in
set_option maxHeartbeats 4000000 in
theorem awake_calls (w : World) : Calls Tryd.prog 8 #[] w fun e w' => e = .returned (.bool true) ∧ Below w.heap.size w w' := by
  go_enter Tryd.func8, Tryd.ntmps8
  go_wp2_with fail
  refine (ring_calls w).mono ?_
  rintro e w1 ⟨g, rfl, hr, hb1⟩
  have hL := lz_ents hr
  have hbA : Below w.heap.size w (w1.alloc (.cells #[.string ⟨#[122, 51]⟩, .int .i64 3, .slice (some ⟨g, 0, none⟩) 1 1] 46)) := hb1.alloc hb1.size _
  have H1 := Lib.hid (And.intro hL hbA)
  clear hr hL hbA hb1
  go_wp2_with fail
  generalize w1.alloc (.cells #[.string ⟨#[122, 51]⟩, .int .i64 3, .slice (some ⟨g, 0, none⟩) 1 1] 46) = W1 at *
  refine (pack_ok (c := 1) H1.out.1 lz_chk).mono ?_
  rintro e w2 ⟨v, rfl, hown, hb2⟩
  have hbl : (byts (packAll [lz])).length = (packAll [lz]).length := byts_len _
  have hpl : (packAll [lz]).length = 16 := by decide +kernel
  obtain ⟨G, cap, rfl, _, _, _, _⟩ := hown.form (by rw [hbl, hpl]; omega)
  rw [hbl] at hown ⊢
  have hx : Byts w2 (some ⟨G, 0, none⟩) (packAll [lz]) := Row.of_own (n := (byts (packAll [lz])).length) (by have := hown; unfold Own at this; rw [hbl] at this ⊢; exact this) (by rw [hbl, hpl]; unfold maxLen; omega)
  have hb2' : Below w.heap.size w w2 := H1.out.2.trans (hb2.mono H1.out.2.size)
  have hL2 := H1.out.1.below hb2
  have hPlt : ∀ x ∈ packAll [lz], x < 256 := packAll_lt lz_chk
  have H2 := Lib.hid (And.intro hx (And.intro hb2' (And.intro hL2 hPlt)))
  obtain ⟨P, hP⟩ : ∃ P, packAll [lz] = P := ⟨_, rfl⟩
  have hcl : pk ++ four (sumB pk) = P := by rw [← hP, lz_pack]
  have hup : unpack P = ([lz], 0, 0) := by rw [← hP]; exact pack_unpack lz_chk
  rw [hP] at H2 hpl ⊢
  rw [hpl]
  have HC := Lib.hid (And.intro hcl hup)
  clear hown hx hb2 hb2' hL2 hPlt hbl hcl hup hP H1
  go_wp2_with fail
  refine (packed_calls w2).mono ?_
  rintro e w3 ⟨a3, c3, rfl, hy3, _, hb3⟩
  have hcc := fun w3 (h : Byts w3 a3 pk) => closed_calls (c := c3) h pk_lt (by decide) (by decide)
  rw [HC.out.1] at hcc
  have H3 := Lib.hid (And.intro hy3 hb3)
  have HCC := Lib.hid hcc
  clear hcc hy3 hb3
  go_wp2_with fail
  refine (HCC.out _ H3.out.1).mono ?_
  rintro e w4 ⟨a4, c4, rfl, hy4, hc4, hb4⟩
  rw [hpl] at hc4 ⊢
  have hu := unpack_calls (c := c4) hy4 H2.out.2.2.2 (by omega) (by omega)
  rw [hpl, HC.out.2] at hu
  have hb24 : Below w2.heap.size w2 w4 := H3.out.2.trans (hb4.mono H3.out.2.size)
  have H4 := Lib.hid hb24
  have HU := Lib.hid hu
  clear hu hb24 hy4 hb4 hc4 H3
  go_wp2_with fail
  refine HU.out.mono ?_
  rintro e w5 ⟨m, rfl, hom, hb5⟩
  obtain ⟨am, cm, rfl, hme⟩ := hom.ents lz_small
  dsimp only
  have hb25 : Below w2.heap.size w2 w5 := H4.out.trans (hb5.mono H4.out.size)
  have hb26 : Below w2.heap.size w2 (w5.alloc (.cells #[.int .i64 0, .int .i64 0] 35)) := hb25.alloc hb25.size _
  have hx0 : (w5.alloc (.cells #[.int .i64 0, .int .i64 0] 35)).cell? ⟨w5.heap.size, 0, none⟩ = some (.int .i64 0) := by rw [cell_of_row _ _ _ _ _ _ (heap_alloc_new w5 (.cells #[.int .i64 0, .int .i64 0] 35))]; rfl
  have hxl : w5.heap.size < (w5.alloc (.cells #[.int .i64 0, .int .i64 0] 35)).heap.size := by rw [World.size_alloc]; omega
  have hme6 := hme.below (w' := w5.alloc (.cells #[.int .i64 0, .int .i64 0] 35)) ((Below.refl _ _).alloc (Nat.le_refl _) _)
  have H6 := Lib.hid (And.intro hb26 (And.intro hme6 (And.intro hx0 hxl)))
  clear hb25 hb26 hb5 hom hme hme6 hx0 hxl H4 HU
  go_wp2_with fail
  generalize w5.alloc (.cells #[.int .i64 0, .int .i64 0] 35) = w6 at *
  generalize w5.heap.size = X at *
  refine (packed_calls w6).mono ?_
  rintro e w7 ⟨a7, c7, rfl, hy7, _, hb7⟩
  have hcc := closed_calls (c := c7) hy7 pk_lt (by decide) (by decide)
  rw [HC.out.1] at hcc
  have HCC := Lib.hid hcc
  have h67 := hb7
  have H7 := Lib.hid h67
  clear hcc hy7 hb7 h67
  go_wp2_with fail
  refine HCC.out.mono ?_
  rintro e w8 ⟨a8, c8, rfl, hy8, _, hb8⟩
  have hb68 : Below w6.heap.size w6 w8 := H7.out.trans (hb8.mono H7.out.size)
  have hb28 : Below w2.heap.size w2 w8 := H6.out.1.trans (hb68.mono H6.out.1.size)
  have hsm := sameByts_calls (some ⟨G, 0, none⟩) a8 cap c8 P P w8 (Row.below H2.out.1 hb28) hy8
  rw [hpl] at hsm
  rw [hpl]
  have hsm2 : Calls Tryd.prog 13 #[.slice (some ⟨G, 0, none⟩) 16 cap, .slice a8 16 c8] w8 fun e w' => e = .returned (.bool true) ∧ ∃ q, w' = w8.drewN q := by simpa using hsm
  have hx8 : w8.cell? ⟨X, 0, none⟩ = some (.int .i64 0) := (hb68.cell (p := ⟨X, 0, none⟩) H6.out.2.2.2).trans H6.out.2.2.1
  have hme8 := H6.out.2.1.below hb68
  have hL8 := H2.out.2.2.1.below hb28
  have hXl : X < w8.heap.size := Nat.lt_of_lt_of_le H6.out.2.2.2 hb68.size
  have H8 := Lib.hid (And.intro hb28 (And.intro hx8 (And.intro hme8 (And.intro hL8 hXl))))
  have HS := Lib.hid hsm2
  clear hb68 hb28 hsm hsm2 hx8 hme8 hL8 hXl hy8 hb8 H6 H7 HCC
  go_wp2_with fail
  refine HS.out.mono ?_
  rintro e w9 ⟨rfl, q9, rfl⟩
  have hsame := fun q => same_calls (R := true) (c := cm) (d := 1) (H8.out.2.2.1.below (below_self_drewN w8 q)) (H8.out.2.2.2.1.below (below_self_drewN w8 q)) (by simp)
  have hxd : (w8.drewN q9).cell? ⟨X, 0, none⟩ = some (.int .i64 0) := H8.out.2.1
  have HSA := Lib.hid hsame
  clear hsame
  go_wp2_with fail
  refine (HSA.out q9).mono ?_
  rintro e w10 ⟨rfl, hb10⟩
  have hx10 : w10.cell? ⟨X, 0, none⟩ = some (.int .i64 0) := (hb10.cell (p := ⟨X, 0, none⟩) H8.out.2.2.2.2).trans hxd
  have hb2A : Below w2.heap.size w2 w10 := (below_drewN H8.out.1 q9).trans (hb10.mono H8.out.1.size)
  have hbW : Below w.heap.size w w10 := H2.out.2.1.trans (hb2A.mono H2.out.2.1.size)
  have HW := Lib.hid hbW
  have hs1 := sum_calls (c := 1) (one_byts w10) (by decide)
  rw [show sumB [1] = 218 by decide] at hs1
  have HS1 := Lib.hid hs1
  clear hb2A hbW hb10 hs1 H8 HS HSA
  go_wp2_with (go_at_call 14; refine HS1.out.mono ?_; rintro e w11 ⟨rfl, rfl⟩)
  go_ret
  exact ⟨rfl, HW.out.alloc HW.out.size _⟩
end Go.Proofs.YtjjjnpolhbbepaaDoor
