/- The comparison of triples; slices.CompareFunc at it. · The comparison that Refine hands to grouped. · Rows of triples of the call's own; the sort of one. · The rows of triples that Refine builds: what lies in memory while it does. · Of: the partition by labels. · Of and Single, of the program and of the reference. -/
import Derived.Test.YtjjjohmppehejaaGreatSortA
import Derived.Test.YtjjjohmppehejaaGreatPlainC
import Derived.Deep.RegionHeld3
set_option linter.unusedSimpArgs false
set_option linter.unusedVariables false
namespace Go.Proofs.YtjjjohmppehejaaGreat
open Go.RowKit Go.Sort Go.Shelf Plain

abbrev T3 := Int × Int × Int
def tl (x : T3) : List Int := [x.1, x.2.1, x.2.2]
def tv (x : T3) : List Value := ints (tl x)

set_option maxHeartbeats 400000 in
theorem triple_calls (x y : T3) (w : World) : Calls Tryz.prog 93 #[.agg (tv x).toArray, .agg (tv y).toArray] w fun e w' => e = .returned (.int .i64 (cmpL (tl x) (tl y))) ∧ Grew w w' := by
  obtain ⟨a, b, c⟩ := x
  obtain ⟨d, e, f⟩ := y
  have h1 : Own (w.alloc (.cells #[.int .i64 a, .int .i64 b, .int .i64 c] 120)) 0 (.slice (some ⟨w.heap.size, 0, none⟩) 3 3) 120 (ints [a, b, c]) := Own.new 120 (ints [a, b, c]) (Nat.zero_le _) (by unfold maxLen; simp [ints])
  have h2 : Own ((w.alloc (.cells #[.int .i64 a, .int .i64 b, .int .i64 c] 120)).alloc (.cells #[.int .i64 d, .int .i64 e, .int .i64 f] 120)) 0 (.slice (some ⟨(w.alloc (.cells #[.int .i64 a, .int .i64 b, .int .i64 c] 120)).heap.size, 0, none⟩) 3 3) 120 (ints [d, e, f]) := Own.new 120 (ints [d, e, f]) (Nat.zero_le _) (by unfold maxLen; simp [ints])
  have h3 := fun m : Nat => compareS_calls _ _ 3 3 [a, b, c] [d, e, f] (World.drewN _ m) (((h1.alloc (.cells #[.int .i64 d, .int .i64 e, .int .i64 f] 120)).drewN m).toInts (by unfold maxLen; simp)) ((h2.drewN m).toInts (by unfold maxLen; simp)) rfl
  have hs : (w.alloc (.cells #[.int .i64 a, .int .i64 b, .int .i64 c] 120)).heap.size = w.heap.size + 1 := by simp
  simp only [hs] at h3
  have Hs := Lib.hid hs
  clear hs
  have Hc := Lib.hid h3
  clear h1 h2 h3
  have e1 : ∀ a b c : Int, (tv (a, b, c)).toArray = #[.int .i64 a, .int .i64 b, .int .i64 c] := fun _ _ _ => rfl
  rw [e1, e1]
  clear e1
  go_enter Tryz.func93, Tryz.ntmps93
  go_wp2
  go_quiet ((go_at_call 44; exact Calls.quiet_of_same (Hc.out _)))
  go_wp2
  go_ret
  exact ⟨rfl, ((((Grew.refl w).alloc _).alloc _).drewN _)⟩

/-- A row of triples. -/
def Tri (w : World) (a : Option Addr) (xs : List T3) : Prop :=
  xs.length ≤ 1000000 ∧ ∀ i x, xs[i]? = some x → ∃ b, a = some ⟨b, 0, none⟩ ∧ b < w.heap.size ∧ w.cell? ⟨b, i * 3, none⟩ = some (.int .i64 x.1) ∧ w.cell? ⟨b, i * 3 + 1, none⟩ = some (.int .i64 x.2.1) ∧ w.cell? ⟨b, i * 3 + 2, none⟩ = some (.int .i64 x.2.2)
theorem Tri.below {w w' : World} {a : Option Addr} {xs : List T3} (h : Tri w a xs) (hb : Below w.heap.size w w') : Tri w' a xs :=
  ⟨h.1, fun i x hx => by
    obtain ⟨b, e, hl, h1, h2, h3⟩ := h.2 i x hx
    exact ⟨b, e, Nat.lt_of_lt_of_le hl hb.size, by rw [hb.cell hl]; exact h1, by rw [hb.cell hl]; exact h2, by rw [hb.cell hl]; exact h3⟩⟩
def flat (xs : List T3) : List Int := xs.flatMap tl
theorem cmpL_flat (x y : T3) (xs ys : List T3) : cmpL (flat (x :: xs)) (flat (y :: ys)) = if cmpL (tl x) (tl y) ≠ 0 then cmpL (tl x) (tl y) else cmpL (flat xs) (flat ys) := by
  obtain ⟨a, b, c⟩ := x
  obtain ⟨d, e, f⟩ := y
  show cmpL (a :: b :: c :: flat xs) (d :: e :: f :: flat ys) = if cmpL [a, b, c] [d, e, f] ≠ 0 then cmpL [a, b, c] [d, e, f] else _
  rw [cmpL_step a d (b :: c :: flat xs), cmpL_step b e (c :: flat xs), cmpL_step c f (flat xs), cmpL_step a d [b, c], cmpL_step b e [c], cmpL_step c f []]
  have h0 : cmpL ([] : List Int) [] = 0 := by simp [cmpL]
  rw [h0]
  by_cases h1 : cmpL [a] [d] = 0 <;> by_cases h2 : cmpL [b] [e] = 0 <;> by_cases h3 : cmpL [c] [f] = 0 <;> simp [h1, h2, h3]

set_option maxHeartbeats 800000 in
theorem compareT_calls (a b : Option Addr) (c d : Nat) (xs ys : List T3) (w : World) (ha : Tri w a xs) (hb : Tri w b ys) (hl : xs.length = ys.length) :
    Calls Tryz.prog 98 #[.slice a xs.length c, .slice b ys.length d, .func (.func 93) #[] #[]] w fun e w' => e = .returned (.int .i64 (cmpL (flat xs) (flat ys))) ∧ Grew w w' := by
  have hA := Lib.hid ha
  have hB := Lib.hid hb
  have hmx := ha.1
  clear ha hb
  obtain ⟨n, hn⟩ : ∃ n, n = xs.length := ⟨_, rfl⟩
  rw [← hl, ← hn]
  rw [← hn] at hmx hl
  have Hn := Lib.hid hn
  have Hm := Lib.hid hl
  clear hn hl
  go_enter Tryz.func98, Tryz.ntmps98
  go_wp2
  go_loopw [13] (fun i wr => ∃ k : Nat, k ≤ n ∧ i = .int .i64 k ∧ cmpL (flat xs) (flat ys) = cmpL (flat (xs.drop k)) (flat (ys.drop k)) ∧ Grew w wr) (fun i _ => n - (intOf i).toNat)
  case atStart => exact ⟨0, Nat.zero_le _, rfl, rfl, Grew.refl _⟩
  case round =>
    obtain ⟨k, hk, rfl, he, hg⟩ := hrel
    by_cases hlt : k < n
    · have hA2 := hA.out.below hg.below
      have hB2 := hB.out.below hg.below
      have hkx : k < xs.length := by rw [← Hn.out]; exact hlt
      have hky : k < ys.length := by rw [← Hm.out]; exact hlt
      obtain ⟨b1, rfl, hl1, x1, x2, x3⟩ := hA2.2 k _ (List.getElem?_eq_getElem hkx)
      obtain ⟨b2, rfl, hl2, y1, y2, y3⟩ := hB2.2 k _ (List.getElem?_eq_getElem hky)
      obtain ⟨x, hx⟩ : ∃ x, x = xs[k] := ⟨_, rfl⟩
      obtain ⟨y, hy⟩ : ∃ y, y = ys[k] := ⟨_, rfl⟩
      rw [← hx] at x1 x2 x3
      rw [← hy] at y1 y2 y3
      have hd : xs.drop k = x :: xs.drop (k + 1) := by rw [hx]; exact (List.getElem_cons_drop hkx).symm
      have hd2 : ys.drop k = y :: ys.drop (k + 1) := by rw [hy]; exact (List.getElem_cons_drop hky).symm
      rw [hd, hd2, cmpL_flat] at he
      have hc := fun W => triple_calls x y W
      have H := Lib.hid (And.intro he (And.intro hg (And.intro hA2 hB2)))
      clear he hg hA2 hB2 hx hy hd hd2
      obtain ⟨p1, p2, p3⟩ := x
      obtain ⟨q1, q2, q3⟩ := y
      obtain ⟨r, hr⟩ : ∃ r, cmpL (tl (p1, p2, p3)) (tl (q1, q2, q3)) = r := ⟨_, rfl⟩
      rw [hr] at H
      simp only [hr] at hc
      have Hc := Lib.hid hc
      clear hc hr
      by_cases h0 : r = 0
      · subst h0
        go_wp2_with fail
        refine (Hc.out _).mono ?_
        rintro e w3 ⟨rfl, hw3⟩
        have hw4 : Grew w w3 := (((H.out.2.1).alloc _).alloc _).trans hw3
        have H4 := Lib.hid hw4
        clear hw3 hw4
        go_wp2
        exact ⟨⟨k + 1, by omega, by go_num, by rw [H.out.1]; simp, H4.out⟩, by simp [intOf]; omega⟩
      · have h1 : (r != 0) = true := by simpa using h0
        have H0 := Lib.hid h0
        clear h0
        go_wp2_with fail
        refine (Hc.out _).mono ?_
        rintro e w3 ⟨rfl, hw3⟩
        have hw4 : Grew w w3 := (((H.out.2.1).alloc _).alloc _).trans hw3
        have H4 := Lib.hid hw4
        clear hw3 hw4
        go_wp2
        go_ret
        exact ⟨ret_int (by rw [H.out.1, if_pos H0.out]), H4.out⟩
    · have hend : cmpL (flat xs) (flat ys) = 0 := by
        rw [he, List.drop_eq_nil_of_le (by rw [← Hn.out]; omega), List.drop_eq_nil_of_le (by rw [← Hm.out]; omega)]
        simp [flat, cmpL]
      have H := Lib.hid (And.intro hend hg)
      clear hend he hg
      go_wp2
      go_ret
      exact ⟨ret_int (by rw [H.out.1]), H.out.2⟩
end Go.Proofs.YtjjjohmppehejaaGreat

namespace Go.Proofs.YtjjjohmppehejaaGreat
open Go.RowKit Go.Sort Go.Shelf Plain

/-- What Refine's comparison reads: the labels, the rows of triples, the comparison of triples, each in a box. -/
structure Boxes (w : World) (B2 B3 B4 : Nat) (n : Nat) (lab : List Int) (keys : List (List T3)) (al : Option Addr) (cl : Nat) (ak : Option Addr) (ck : Nat) : Prop where
  b2 : B2 < w.heap.size
  b3 : B3 < w.heap.size
  b4 : B4 < w.heap.size
  c2 : w.cell? ⟨B2, 0, none⟩ = some (.slice al n cl)
  c3 : w.cell? ⟨B3, 0, none⟩ = some (.slice ak n ck)
  c4 : w.cell? ⟨B4, 0, none⟩ = some (.func (.func 93) #[] #[])
  rl : Ints w al lab
  ln : lab.length = n
  lb : ∀ x ∈ lab, 0 ≤ x ∧ x ≤ 1000000
  kn : keys.length = n
  row : ∀ i xs, keys[i]? = some xs → ∃ b a c, ak = some ⟨b, 0, none⟩ ∧ b < w.heap.size ∧ w.cell? ⟨b, i, none⟩ = some (.slice a n c) ∧ Tri w a xs ∧ xs.length = n
theorem Boxes.below {w w' : World} {B2 B3 B4 n : Nat} {lab : List Int} {keys : List (List T3)} {al : Option Addr} {cl : Nat} {ak : Option Addr} {ck : Nat} (h : Boxes w B2 B3 B4 n lab keys al cl ak ck) (hb : Below w.heap.size w w') :
    Boxes w' B2 B3 B4 n lab keys al cl ak ck where
  b2 := Nat.lt_of_lt_of_le h.b2 hb.size
  b3 := Nat.lt_of_lt_of_le h.b3 hb.size
  b4 := Nat.lt_of_lt_of_le h.b4 hb.size
  c2 := by rw [hb.cell h.b2]; exact h.c2
  c3 := by rw [hb.cell h.b3]; exact h.c3
  c4 := by rw [hb.cell h.b4]; exact h.c4
  rl := h.rl.below hb
  ln := h.ln
  lb := h.lb
  kn := h.kn
  row := fun i xs hx => by
    obtain ⟨b, a, c, e, hl, hc, ht, hn⟩ := h.row i xs hx
    exact ⟨b, a, c, e, Nat.lt_of_lt_of_le hl hb.size, by rw [hb.cell hl]; exact hc, ht.below hb, hn⟩

set_option maxRecDepth 100000 in
set_option maxHeartbeats 1000000 in
theorem refine3_calls (w : World) (B2 B3 B4 n : Nat) (hn : n ≤ 1000) (lab : List Int) (keys : List (List T3)) (al : Option Addr) (cl : Nat) (ak : Option Addr) (ck : Nat) (h : Boxes w B2 B3 B4 n lab keys al cl ak ck) (x y : Nat) (hx : x < n) (hy : y < n) :
    Calls Tryz.prog 96 #[.int .i64 x, .int .i64 y, .pointer (some ⟨B2, 0, none⟩), .pointer (some ⟨B3, 0, none⟩), .pointer (some ⟨B4, 0, none⟩)] w fun e w' =>
      e = .returned (.int .i64 (orL [lab[x]?.getD 0 - lab[y]?.getD 0, cmpL (flat (keys[x]?.getD [])) (flat (keys[y]?.getD []))])) ∧ Grew w w' := by
  have hxk : keys[x]? = some (keys[x]?.getD []) := by rw [List.getElem?_eq_getElem (by rw [h.kn]; exact hx)]; rfl
  have hyk : keys[y]? = some (keys[y]?.getD []) := by rw [List.getElem?_eq_getElem (by rw [h.kn]; exact hy)]; rfl
  obtain ⟨kx, hkx⟩ : ∃ kx, keys[x]?.getD [] = kx := ⟨_, rfl⟩
  obtain ⟨ky, hky⟩ : ∃ ky, keys[y]?.getD [] = ky := ⟨_, rfl⟩
  obtain ⟨b, a1, d1, rfl, hb, hcx, htx, hnx⟩ := h.row x _ hxk
  obtain ⟨b', a2, d2, e2, hb', hcy, hty, hny⟩ := h.row y _ hyk
  cases e2
  obtain ⟨g, o, rfl, hgl, hlx⟩ := h.rl.at_ (k := x) (by rw [h.ln]; exact hx)
  obtain ⟨g', o', e3, _, hly⟩ := h.rl.at_ (k := y) (by rw [h.ln]; exact hy)
  cases e3
  have hlbx : 0 ≤ lab[x]?.getD 0 ∧ lab[x]?.getD 0 ≤ 1000000 := by
    have hl : x < lab.length := by rw [h.ln]; exact hx
    rw [List.getElem?_eq_getElem hl]; exact h.lb _ (List.getElem_mem _)
  have hlby : 0 ≤ lab[y]?.getD 0 ∧ lab[y]?.getD 0 ≤ 1000000 := by
    have hl : y < lab.length := by rw [h.ln]; exact hy
    rw [List.getElem?_eq_getElem hl]; exact h.lb _ (List.getElem_mem _)
  obtain ⟨lx, hlxe⟩ : ∃ lx, lab[x]?.getD 0 = lx := ⟨_, rfl⟩
  obtain ⟨ly, hlye⟩ : ∃ ly, lab[y]?.getD 0 = ly := ⟨_, rfl⟩
  rw [hkx] at htx hnx ⊢
  rw [hky] at hty hny ⊢
  rw [hlxe] at hlx hlbx ⊢
  rw [hlye] at hly hlby ⊢
  have hc := fun m => compareT_calls a1 a2 d1 d2 kx ky (w.drewN m) htx hty (by rw [hnx, hny])
  rw [hnx, hny] at hc
  have hc2 := h.c2
  have hc3 := h.c3
  have hc4 := h.c4
  have hw : IntKind.i64.wrap (lx - ly) = lx - ly := IntWalk.i64_in _ (by omega)
  obtain ⟨r, hr⟩ : ∃ r, cmpL (flat kx) (flat ky) = r := ⟨_, rfl⟩
  simp only [hr] at hc ⊢
  have Hc := Lib.hid hc
  clear hc hr hkx hky htx hty hnx hny hlxe hlye hlbx hlby hxk hyk hb'
  have l2 := h.b2
  have l3 := h.b3
  have l4 := h.b4
  clear h
  have hxn : (x : Int) < n := by omega
  have hyn : (y : Int) < n := by omega
  go_enter Tryz.func96, Tryz.ntmps96
  go_wp2
  go_region_held3 (fun w' => w'.cell? ⟨B2, 0, none⟩ = some (.slice (some ⟨g, o, none⟩) n cl) ∧ w'.cell? ⟨B3, 0, none⟩ = some (.slice (some ⟨b, 0, none⟩) n ck) ∧ w'.cell? ⟨B4, 0, none⟩ = some (.func (.func 93) #[] #[]) ∧
      w'.cell? ⟨g, o + x, none⟩ = some (.int .i64 lx) ∧ w'.cell? ⟨g, o + y, none⟩ = some (.int .i64 ly) ∧ w'.cell? ⟨b, x, none⟩ = some (.slice a1 n d1) ∧ w'.cell? ⟨b, y, none⟩ = some (.slice a2 n d2))
    (first
      | assumption
      | go_keep
      | (refine ⟨?_, ?_, ?_, ?_, ?_, ?_, ?_⟩
         · (rw [hB3.cell l2]; assumption)
         · (rw [hB3.cell l3]; assumption)
         · (rw [hB3.cell l4]; assumption)
         · (rw [hB3.cell hgl]; assumption)
         · (rw [hB3.cell hgl]; assumption)
         · (rw [hB3.cell hb]; assumption)
         · (rw [hB3.cell hb]; assumption)))
    (first
      | (go_at_call 98; refine (Hc.out 1).mono ?_; rintro e w3 ⟨rfl, hw3⟩; have hB3 : Below w.heap.size w w3 := (((Grew.refl w).drewN 1).trans hw3).below)
      | (go_at_call 97; refine (or_calls (some ⟨w3.heap.size, 0, none⟩) 2 [lx - ly, r] _ (Own.toInts (B := 0) (Own.new 3 (ints [lx - ly, r]) (Nat.zero_le _) (by unfold maxLen; simp [ints])) (by unfold maxLen; simp))).mono ?_; rintro e w4 ⟨rfl, rfl⟩))
  go_wp2
  go_ret
  exact ⟨rfl, (((Grew.refl w).drewN 1).trans hw3).alloc _⟩

def cfR (lab : List Int) (keys : List (List T3)) (x y : Nat) : Int := orL [lab[x]?.getD 0 - lab[y]?.getD 0, cmpL (flat (keys[x]?.getD [])) (flat (keys[y]?.getD []))]
/-- The row of a point: its label, then its triples. -/
def rowR (lab : List Int) (keys : List (List T3)) (x : Nat) : List Int := lab[x]?.getD 0 :: flat (keys[x]?.getD [])
theorem refine_cmp {w : World} {B2 B3 B4 n : Nat} (hn : n ≤ 1000) {lab : List Int} {keys : List (List T3)} {al : Option Addr} {cl : Nat} {ak : Option Addr} {ck : Nat} (h : Boxes w B2 B3 B4 n lab keys al cl ak ck) :
    CmpOk w 96 #[.pointer (some ⟨B2, 0, none⟩), .pointer (some ⟨B3, 0, none⟩), .pointer (some ⟨B4, 0, none⟩)] n (cfR lab keys) :=
  ⟨enters_of Tryz.func96 (by kernel_rfl) rfl, fun W hW x y hx hy => refine3_calls W B2 B3 B4 n hn lab keys al cl ak ck (h.below hW) x y hx hy⟩
theorem flat_len (xs : List T3) : (flat xs).length = xs.length * 3 := by
  induction xs with
  | nil => rfl
  | cons x r ih => simp only [flat, List.flatMap_cons, List.length_append, List.length_cons] at ih ⊢; rw [ih]; simp [tl]; omega
theorem refine_cf {n : Nat} {lab : List Int} {keys : List (List T3)} (hk : keys.length = n) (hr : ∀ xs ∈ keys, xs.length = n) (x y : Nat) (hx : x < n) (hy : y < n) :
    (cfR lab keys x y < 0 ↔ cmpL (rowR lab keys x) (rowR lab keys y) < 0) ∧ (cfR lab keys x y = 0 ↔ rowR lab keys x = rowR lab keys y) := by
  unfold cfR rowR
  obtain ⟨a, ha⟩ : ∃ a, lab[x]?.getD 0 = a := ⟨_, rfl⟩
  obtain ⟨b, hb⟩ : ∃ a, lab[y]?.getD 0 = a := ⟨_, rfl⟩
  obtain ⟨p, hp⟩ : ∃ a, keys[x]?.getD [] = a := ⟨_, rfl⟩
  obtain ⟨q, hq⟩ : ∃ a, keys[y]?.getD [] = a := ⟨_, rfl⟩
  rw [ha, hb, hp, hq, cmpL_step]
  unfold orL orL orL
  rcases Int.lt_trichotomy a b with h | h | h
  · rw [cmpL_lt h, if_pos (by omega)]
    simp only [ne_eq, if_true, List.cons.injEq]
    refine ⟨by simp; omega, by constructor <;> (intro h2; omega)⟩
  · subst h
    have e0 : cmpL [a] [a] = 0 := cmpL_self _
    rw [if_neg (by omega), e0]
    simp only [ne_eq, not_true_eq_false, if_false, List.cons.injEq, true_and]
    have e1 : (if ¬ cmpL (flat p) (flat q) = 0 then cmpL (flat p) (flat q) else 0) = cmpL (flat p) (flat q) := by
      split
      · rfl
      · rename_i h; simp at h; exact h.symm
    rw [e1]
    exact ⟨Iff.rfl, fun h => cmpL_zero h, fun h => by rw [h, cmpL_self]⟩
  · rw [cmpL_gt h, if_pos (by omega)]
    simp only [List.cons.injEq]
    refine ⟨by simp; omega, by constructor <;> (intro h2; omega)⟩
end Go.Proofs.YtjjjohmppehejaaGreat

namespace Go.Proofs.YtjjjohmppehejaaGreat
open Go.RowKit Go.Sort Go.Shelf Plain

theorem flat_get : ∀ (xs : List T3) (i j : Nat), j < 3 → (flat xs)[i * 3 + j]? = (xs[i]?).bind fun x => (tl x)[j]?
  | [], i, j, _ => by simp [flat]
  | x :: r, 0, j, h => by
    have : flat (x :: r) = tl x ++ flat r := by simp [flat]
    rw [this, List.getElem?_append_left (by simp [tl]; omega)]
    simp
  | x :: r, i + 1, j, h => by
    have : flat (x :: r) = tl x ++ flat r := by simp [flat]
    rw [this, List.getElem?_append_right (by simp [tl]; omega)]
    have e : (i + 1) * 3 + j - (tl x).length = i * 3 + j := by simp [tl]; omega
    rw [e, flat_get r i j h]
    simp
theorem flatK_flat (d : Array T3) : (flatK tv 3 d).toList = ints (flat d.toList) := by
  apply List.ext_getElem?
  intro t
  by_cases ht : t < d.size * 3
  · have h1 := get_flatK tv 3 d t ht
    have hd : t / 3 < d.size := by omega
    have e : t = (t / 3) * 3 + t % 3 := by omega
    have h2 := flat_get d.toList (t / 3) (t % 3) (by omega)
    rw [← e] at h2
    have hsz : t < (flatK tv 3 d).size := by simp; exact ht
    rw [Array.getElem?_toList, Array.getElem?_eq_getElem hsz, ← getElem!_pos (flatK tv 3 d) t hsz, h1]
    simp only [ints, List.getElem?_map, h2, Array.getElem?_toList, Array.getElem?_eq_getElem hd, Option.bind_some]
    rw [getElem!_pos d (t / 3) hd]
    obtain ⟨a, b, c⟩ := d[t / 3]
    have hm : t % 3 = 0 ∨ t % 3 = 1 ∨ t % 3 = 2 := by omega
    rcases hm with hm | hm | hm <;> simp [hm, tv, tl, ints]
  · rw [List.getElem?_eq_none (by simp; omega), List.getElem?_eq_none (by rw [ints_len, flat_len]; simp; omega)]

/-- A row of triples of the call's own. -/
def Own3 (w : World) (B : Nat) (v : Value) (ts : List T3) : Prop := w.ownsRow B 120 3 v ts.length (ints (flat ts))
theorem Own3.nil (w : World) (B : Nat) : Own3 w B (.slice none 0 0) [] := World.ownsRow_nil w B 120 3
theorem Own3.kept {w w' : World} {B : Nat} {v : Value} {ts : List T3} (h : Own3 w B v ts) {row : Option Nat} (hg : w.grownBy w' row) (hne : v.ownBlock = none ∨ v.ownBlock ≠ row) : Own3 w' B v ts := World.ownsRow.kept h hg hne
theorem Own3.alloc {w : World} {B : Nat} {v : Value} {ts : List T3} (h : Own3 w B v ts) (o : Obj) : Own3 (w.alloc o) B v ts := World.ownsRow.alloc h o
theorem Own3.drewN {w : World} {B : Nat} {v : Value} {ts : List T3} (h : Own3 w B v ts) (n : Nat) : Own3 (w.drewN n) B v ts := h
theorem Own3.mono {w : World} {B B' : Nat} {v : Value} {ts : List T3} (h : Own3 w B v ts) (hb : B' ≤ B) : Own3 w B' v ts := by
  obtain ⟨h1, h2⟩ := h
  refine ⟨h1, ?_⟩
  rcases h2 with h2 | ⟨g, cap, cur, hv, hg, r⟩
  · exact .inl h2
  · exact .inr ⟨g, cap, cur, hv, by omega, r⟩
theorem Own3.blk {w : World} {B : Nat} {v : Value} {ts : List T3} (h : Own3 w B v ts) : v.ownBlock = none ∨ ∃ g cur, v.ownBlock = some g ∧ B ≤ g ∧ g < w.heap.size ∧ w.heap[g]? = some (.cells cur 120 (0, 0)) := by
  rcases h.2 with ⟨rfl, _⟩ | ⟨g, cap, cur, rfl, hB, hh, _⟩
  · exact .inl rfl
  · refine .inr ⟨g, cur, rfl, hB, ?_, hh⟩
    rcases Nat.lt_or_ge g w.heap.size with hl | hl
    · exact hl
    · rw [Array.getElem?_eq_none hl] at hh; cases hh
theorem Own3.form {w : World} {B : Nat} {v : Value} {ts : List T3} (h : Own3 w B v ts) (hn : 0 < ts.length) :
    ∃ g cap, v = .slice (some ⟨g, 0, none⟩) ts.length cap ∧ B ≤ g ∧ g < w.heap.size ∧ ts.length ≤ cap ∧ cap ≤ maxLen := by
  rcases h.2 with ⟨_, h0⟩ | ⟨g, cap, cur, rfl, hB, hh, hnc, hcm, _⟩
  · omega
  · refine ⟨g, cap, rfl, hB, ?_, hnc, hcm⟩
    rcases Nat.lt_or_ge g w.heap.size with hl | hl
    · exact hl
    · rw [Array.getElem?_eq_none hl] at hh; cases hh
theorem Own3.any_form {w : World} {B : Nat} {v : Value} {ts : List T3} (h : Own3 w B v ts) : ∃ a c, v = .slice a ts.length c := by
  rcases h.2 with ⟨rfl, h0⟩ | ⟨g, cap, cur, rfl, _⟩
  · exact ⟨none, 0, by rw [h0]⟩
  · exact ⟨_, _, rfl⟩
theorem Own3.tri {w : World} {B : Nat} {a : Option Addr} {n c : Nat} {ts : List T3} (h : Own3 w B (.slice a n c) ts) (hl : ts.length ≤ 1000000) : Tri w a ts := by
  refine ⟨hl, fun i x hx => ?_⟩
  have hi : i < ts.length := (List.getElem?_eq_some_iff.1 hx).1
  obtain ⟨g, cap, e, hB, hlt, _⟩ := h.form (by omega)
  cases e
  have hc : ∀ j, j < 3 → w.cell? ⟨g, i * 3 + j, none⟩ = some (.int .i64 ((tl x)[j]?.getD 0)) := fun j hj => by
    have h1 := World.ownsRow.cells h (g := g) rfl (i * 3 + j) (.int .i64 ((tl x)[j]?.getD 0)) (by
      simp only [ints, List.getElem?_map, flat_get ts i j hj, hx, Option.bind_some]
      obtain ⟨p, q, r⟩ := x
      have hm : j = 0 ∨ j = 1 ∨ j = 2 := by omega
      rcases hm with hm | hm | hm <;> subst hm <;> simp [tl])
    rw [add_zero_addr] at h1
    simpa using h1
  exact ⟨g, rfl, hlt, hc 0 (by omega), hc 1 (by omega), hc 2 (by omega)⟩
theorem own3_sortWorld {w : World} {D blk n cap : Nat} {ts : List T3} (h : Own3 w D (.slice (some ⟨blk, 0, none⟩) n cap) ts) (m : Nat) (os : Array Obj) (d : Array T3) (hd : d.size = ts.length) :
    Own3 (sortWorldK tv 3 w blk 0 m d os) D (.slice (some ⟨blk, 0, none⟩) n cap) d.toList := by
  have hf := flatK_flat d
  have hw : sortWorldK tv 3 w blk 0 m d os = sortWorld id w blk 0 m (flatK tv 3 d) os := rfl
  rw [hw]
  have hfs : (flatK tv 3 d).size = ts.length * 3 := by simp [hd]
  obtain ⟨F, hF⟩ : ∃ F, flatK tv 3 d = F := ⟨_, rfl⟩
  rw [hF] at hf hfs ⊢
  rcases h.2 with ⟨h1, _⟩ | ⟨g, cap', cur, h1, hB, hh, hnc, hcm, hcs, htk⟩
  · cases h1
  · cases h1
    have hblk : blk < w.heap.size := by
      rcases Nat.lt_or_ge blk w.heap.size with hl | hl
      · exact hl
      · rw [Array.getElem?_eq_none hl] at hh; cases hh
    have hle : d.toList.length = ts.length := by simp [hd]
    unfold Own3
    rw [hle, ← hf]
    refine ⟨by simp [hfs], .inr ⟨blk, cap, Go.Sort.putCells id 0 F cur, rfl, hB, ?_, hnc, hcm, by simp [Go.Sort.putCells, hcs], ?_⟩⟩
    · rw [heap_sortWorld id w blk 0 m F os blk hblk, Array.getElem?_modify, if_pos rfl, hh]; rfl
    · apply List.ext_getElem?
      intro j
      rw [List.getElem?_take]
      by_cases hj : j < ts.length * 3
      · have hjd : j < F.size := by omega
        have hjc : j < cur.size := by omega
        rw [if_pos hj]
        simp only [Go.Sort.putCells, Array.getElem?_toList, Array.getElem?_mapIdx]
        rw [Array.getElem?_eq_getElem hjc, Array.getElem?_eq_getElem hjd]
        simp [hjd]
      · rw [if_neg hj, List.getElem?_eq_none (by simp; omega)]
theorem holds_own3 {w : World} {D blk cap n : Nat} (d : Array T3) (h : Own3 w D (.slice (some ⟨blk, 0, none⟩) n cap) d.toList) : HoldsK tv 3 w blk 0 d := by
  intro j hj
  have hf := flatK_flat d
  have hlt : j < (ints (flat d.toList)).length := by rw [← hf]; simpa using hj
  have hc := World.ownsRow.cells h (g := blk) rfl j _ (List.getElem?_eq_getElem hlt)
  rw [add_zero_addr, Nat.zero_add] at hc
  rw [Nat.zero_add]
  have hfz : w.frozen? ⟨blk, j, none⟩ = false := by
    rcases h.2 with ⟨h1, _⟩ | ⟨g, cap', cur, h1, _⟩
    · cases h1
    · have hn : n = d.toList.length := by injection h1
      subst hn
      exact World.ownsRow.frozenAt h j
  refine ⟨?_, hfz⟩
  rw [hc]
  congr 1
  have h2 : (flatK tv 3 d).toList[j]? = (ints (flat d.toList))[j]? := by rw [hf]
  rw [List.getElem?_eq_getElem hlt, Array.getElem?_toList, Array.getElem?_eq_getElem hj] at h2
  rw [getElem!_pos (flatK tv 3 d) j hj]
  exact (Option.some.inj h2).symm

def leT (x y : T3) : Prop := ¬ cmpL (tl y) (tl x) < 0
theorem tl_inj {x y : T3} (h : tl x = tl y) : x = y := by
  obtain ⟨a, b, c⟩ := x
  obtain ⟨d, e, f⟩ := y
  simp [tl] at h
  obtain ⟨rfl, rfl, rfl⟩ := h
  rfl
theorem leT_antisymm {x y : T3} (h : leT x y) (k : leT y x) : x = y := by
  unfold leT at h k
  have := cmpL_antisymm (tl x) (tl y)
  exact tl_inj (cmpL_zero (by omega))
theorem leT_trans {x y z : T3} (h : leT x y) (k : leT y z) : leT x z := by
  unfold leT at *
  intro hzx
  have h1 := cmpL_antisymm (tl x) (tl y)
  by_cases e : cmpL (tl x) (tl y) = 0
  · rw [cmpL_zero e] at hzx; exact k hzx
  · exact k (cmpL_trans hzx (by omega))
theorem leT_total (x y : T3) : leT x y ∨ leT y x := by
  unfold leT
  have h1 := cmpL_antisymm (tl x) (tl y)
  omega

set_option maxHeartbeats 1000000 in
theorem sortT_calls (ts : List T3) (w : World) (D : Nat) (a : Option Addr) (c : Nat) (h : Own3 w D (.slice a ts.length c) ts) (hl : ts.length ≤ 1000000) :
    Calls Tryz.prog 94 #[.slice a ts.length c, .func (.func 93) #[] #[]] w fun e w' => e = .returned (.tuple #[]) ∧ ∃ ss : List T3, ss.Perm ts ∧ ss.Pairwise leT ∧ Own3 w' D (.slice a ts.length c) ss ∧ w.grownBy w' (Value.slice a ts.length c).ownBlock := by
  rcases Nat.eq_zero_or_pos ts.length with h0 | h0
  · have hts : ts = [] := List.eq_nil_of_length_eq_zero h0
    subst hts
    have hn := AnyF.slices_SortFunc_none (P := Tryz.prog) (ρ := Tryz.sortT_ren) { Tryz.sortT with } a c (.func (.func 93) #[] #[]) w
    change Calls Tryz.prog 94 _ _ _ at hn
    exact hn.mono fun e w' ⟨he, hw⟩ => ⟨he, [], .refl _, .nil, by rw [hw]; exact h, by rw [hw]; exact World.grownBy.refl w _⟩
  · obtain ⟨blk, cap, e, hblk, hblt, hnc, hcm⟩ := h.form h0
    cases e
    let cf : T3 → T3 → Int := fun x y => cmpL (tl x) (tl y)
    have hlt : ∀ x y : T3, ltOf cf x y = true ↔ cmpL (tl x) (tl y) < 0 := fun x y => by
      show decide (_ < 0) = true ↔ _
      rw [decide_eq_true_iff]
    have hltf : ∀ x y : T3, ltOf cf x y = false ↔ leT y x := fun x y => by
      unfold leT; rw [← hlt]; simp
    have hO : SWO (ltOf cf) := by
      refine ⟨fun x => (hltf x x).2 (by unfold leT; rw [cmpL_self]; omega), fun x y z h k => (hlt x z).2 (cmpL_trans ((hlt x y).1 h) ((hlt y z).1 k)), fun x y z h k => (hltf x z).2 (leT_trans ((hltf y z).1 k) ((hltf x y).1 h))⟩
    let d : Array T3 := ts.toArray
    have hds : d.size = ts.length := by simp [d]
    have hown : Own3 w D (.slice (some ⟨blk, 0, none⟩) ts.length c) d.toList := by simpa [d] using h
    have hcmp : CmpLays Tryz.prog 93 #[] tv 3 cf blk 0 d.size w := by
      intro m os dk hdk x y
      exact triple_calls x y (sortWorldK tv 3 w blk 0 m dk os)
    have hcon := AnyQ.slices_SortFunc_total Tryz.sortT 3 Tryz.isAgg120 Tryz.sizeOf120 tv (fun _ => rfl) (fun x v hv => by
      obtain ⟨p, q, r⟩ := x
      simp [tv, tl, ints] at hv
      rcases hv with rfl | rfl | rfl <;> rfl) cf hO 93 #[] blk 0 c d w (enters_of Tryz.func93 (by kernel_rfl) rfl) hcmp (holds_own3 d hown) hblt (by rw [hds]; omega) (fun x y h1 h2 => leT_antisymm ((hltf y x).1 h2) ((hltf x y).1 h1))
    rw [hds] at hcon
    change Calls Tryz.prog 94 _ _ _ at hcon
    refine hcon.mono ?_
    rintro e w' ⟨he, m, os, rfl⟩
    have hperm := List.mergeSort_perm ts (fun x y => !(ltOf cf) y x)
    have hsort := List.pairwise_mergeSort (le := fun x y => !(ltOf cf) y x) (fun x y z h1 h2 => by
      simp only [Bool.not_eq_true', hltf] at h1 h2 ⊢
      exact leT_trans h1 h2) (fun x y => by
      simp only [Bool.or_eq_true, Bool.not_eq_true', hltf]
      exact leT_total x y) ts
    refine ⟨he, _, hperm, hsort.imp fun {x y} h1 => by simpa only [Bool.not_eq_true', hltf] using h1, ?_, grown_sortWorld id w blk 0 m _ os⟩
    exact own3_sortWorld h m os _ (by simp [d, List.length_mergeSort])
end Go.Proofs.YtjjjohmppehejaaGreat

namespace Go.Proofs.YtjjjohmppehejaaGreat
open Go.RowKit Go.Sort Go.Shelf Plain

def tri (lab : List Int) (m : List (List Int)) (v u : Nat) : T3 := (lab[u]?.getD 0, mat m v u, mat m u v)
def triTo (lab : List Int) (m : List (List Int)) (v u : Nat) : List T3 := (List.range u).map (tri lab m v)
theorem triTo_succ (lab : List Int) (m : List (List Int)) (v u : Nat) : triTo lab m v (u + 1) = triTo lab m v u ++ [tri lab m v u] := by
  simp [triTo, List.range_succ]
theorem triTo_len (lab : List Int) (m : List (List Int)) (v u : Nat) : (triTo lab m v u).length = u := by simp [triTo]

theorem Own.ne3 {w : World} {B B' : Nat} {v v' : Value} {e : TypeId} {xs : List Value} {ts : List T3} (h : Own w B v e xs) (h' : Own3 w B' v' ts) (hne : e ≠ 120) : v.ownBlock = none ∨ v.ownBlock ≠ v'.ownBlock := by
  rcases h.blk with h1 | ⟨g, cur, h1, _, _, h2⟩
  · exact .inl h1
  · right
    rcases h'.blk with h3 | ⟨g', cur', h3, _, _, h4⟩
    · rw [h1, h3]; simp
    · rw [h1, h3]
      intro he
      injection he with he
      subst he
      rw [h2] at h4
      injection h4 with h4
      injection h4 with _ h5
      exact hne h5
theorem Own3.ne {w : World} {B B' : Nat} {v v' : Value} {e : TypeId} {xs : List Value} {ts : List T3} (h' : Own3 w B' v' ts) (h : Own w B v e xs) (hne : e ≠ 120) : v'.ownBlock = none ∨ v'.ownBlock ≠ v.ownBlock := by
  rcases h'.blk with h3 | ⟨g', cur', h3, _, _, h4⟩
  · exact .inl h3
  · right
    rcases h.ne3 h' hne with h1 | h1
    · rw [h1, h3]; simp
    · exact fun e => h1 e.symm

/-- The boxes of a round, and the rows of triples that are done. -/
structure KeyS (w1 w : World) (D n B2 B3 B4 gk : Nat) (al : Option Addr) (cl : Nat) (lab : List Int) (m : List (List Int)) (v : Nat) (cs : List Value) (ks : List (List T3)) (K : Nat) : Prop where
  x2 : Own w D (.slice (some ⟨B2, 0, none⟩) 1 1) 23 [.slice al n cl]
  x3 : Own w D (.slice (some ⟨B3, 0, none⟩) 1 1) 119 [.slice (some ⟨gk, 0, none⟩) n n]
  x4 : Own w D (.slice (some ⟨B4, 0, none⟩) 1 1) 121 [.func (.func 93) #[] #[]]
  xl : Own w D (.slice al n cl) 3 (ints lab)
  dk : D ≤ K
  k2 : B2 < K
  k3 : B3 < K
  k4 : B4 < K
  kl : ∀ g, (Value.slice al n cl).ownBlock = some g → g < K
  lc : cs.length = v
  lk : ks.length = v
  row : ∀ (i : Nat) (u : Value) (ts : List T3), cs[i]? = some u → ks[i]? = some ts → Own3 w D u ts ∧ ∀ g, u.ownBlock = some g → g < K
  key : ∀ (i : Nat) (ts : List T3), ks[i]? = some ts → ts.Perm (triTo lab m i n) ∧ ts.Pairwise leT
  bel : Below D w1 w
section
variable {w1 w w' : World} {D n B2 B3 B4 gk : Nat} {al : Option Addr} {cl : Nat} {lab : List Int} {m : List (List Int)} {v : Nat} {cs : List Value} {ks : List (List T3)} {K : Nat}
theorem own1_ne {g K : Nat} (h : g < K) {row : Option Nat} (hr : ∀ g, row = some g → K ≤ g) {n c : Nat} : (Value.slice (some ⟨g, 0, none⟩) n c).ownBlock = none ∨ (Value.slice (some ⟨g, 0, none⟩) n c).ownBlock ≠ row := by
  right
  intro e
  have := hr g e.symm
  omega
theorem lt_ne {o : Option Nat} {K : Nat} (h : ∀ g, o = some g → g < K) {row : Option Nat} (hr : ∀ g, row = some g → K ≤ g) : o = none ∨ o ≠ row := by
  cases o with
  | none => exact .inl rfl
  | some g => right; intro e; have := hr g e.symm; have := h g rfl; omega
theorem KeyS.kept (h : KeyS w1 w D n B2 B3 B4 gk al cl lab m v cs ks K) {row : Option Nat} (hg : w.grownBy w' row) (hr : ∀ g, row = some g → K ≤ g) (hD : D ≤ w.heap.size) : KeyS w1 w' D n B2 B3 B4 gk al cl lab m v cs ks K where
  x2 := h.x2.kept hg (own1_ne h.k2 hr)
  x3 := h.x3.kept hg (own1_ne h.k3 hr)
  x4 := h.x4.kept hg (own1_ne h.k4 hr)
  xl := h.xl.kept hg (lt_ne h.kl hr)
  dk := h.dk
  k2 := h.k2
  k3 := h.k3
  k4 := h.k4
  kl := h.kl
  lc := h.lc
  lk := h.lk
  row := fun i u ts hu ht => by
    obtain ⟨h1, h2⟩ := h.row i u ts hu ht
    exact ⟨h1.kept hg (lt_ne h2 hr), h2⟩
  key := h.key
  bel := h.bel.grown hg hD (fun k hk => Nat.le_trans h.dk (hr k hk))
theorem KeyS.put (h : KeyS w1 w D n B2 B3 B4 gk al cl lab m v cs ks K) {c : Nat} {xs : List Value} (hk : Own w D (.slice (some ⟨gk, 0, none⟩) n c) 122 xs) (hD : D ≤ gk) (i : Nat) (u : Value) : KeyS w1 (w.setCell ⟨gk, i, none⟩ u) D n B2 B3 B4 gk al cl lab m v cs ks K where
  x2 := h.x2.kept (grown_put i u) (h.x2.ne_type hk (by decide))
  x3 := h.x3.kept (grown_put i u) (h.x3.ne_type hk (by decide))
  x4 := h.x4.kept (grown_put i u) (h.x4.ne_type hk (by decide))
  xl := h.xl.kept (grown_put i u) (h.xl.ne_type hk (by decide))
  dk := h.dk
  k2 := h.k2
  k3 := h.k3
  k4 := h.k4
  kl := h.kl
  lc := h.lc
  lk := h.lk
  row := fun i' u' ts hu ht => by
    obtain ⟨h1, h2⟩ := h.row i' u' ts hu ht
    exact ⟨h1.kept (grown_put i u) (h1.ne hk (by decide)), h2⟩
  key := h.key
  bel := h.bel.setCell hD u
theorem KeyS.drewN (h : KeyS w1 w D n B2 B3 B4 gk al cl lab m v cs ks K) (q : Nat) : KeyS w1 (w.drewN q) D n B2 B3 B4 gk al cl lab m v cs ks K :=
  { h with bel := below_drewN h.bel q }
/-- A later bound serves too. -/
theorem KeyS.up (h : KeyS w1 w D n B2 B3 B4 gk al cl lab m v cs ks K) {K' : Nat} (hK : K ≤ K') : KeyS w1 w D n B2 B3 B4 gk al cl lab m v cs ks K' :=
  { h with
    dk := Nat.le_trans h.dk hK
    k2 := Nat.lt_of_lt_of_le h.k2 hK
    k3 := Nat.lt_of_lt_of_le h.k3 hK
    k4 := Nat.lt_of_lt_of_le h.k4 hK
    kl := fun g hg => Nat.lt_of_lt_of_le (h.kl g hg) hK
    row := fun i u ts hu ht => by
      obtain ⟨h1, h2⟩ := h.row i u ts hu ht
      exact ⟨h1, fun g hg => Nat.lt_of_lt_of_le (h2 g hg) hK⟩ }
/-- One row more is done. -/
theorem KeyS.next (h : KeyS w1 w D n B2 B3 B4 gk al cl lab m v cs ks K) {u : Value} {ts : List T3} (ho : Own3 w D u ts) (hp : ts.Perm (triTo lab m v n)) (hs : ts.Pairwise leT) {K' : Nat} (hK : K ≤ K') (hu : ∀ g, u.ownBlock = some g → g < K') :
    KeyS w1 w D n B2 B3 B4 gk al cl lab m (v + 1) (cs ++ [u]) (ks ++ [ts]) K' :=
  { x2 := h.x2, x3 := h.x3, x4 := h.x4, xl := h.xl, dk := (h.up hK).dk, k2 := (h.up hK).k2, k3 := (h.up hK).k3, k4 := (h.up hK).k4, kl := (h.up hK).kl, bel := h.bel,
    lc := by simp [h.lc]
    lk := by simp [h.lk]
    row := fun i u' ts' hu' ht' => by
      rcases Nat.lt_or_ge i v with hi | hi
      · rw [List.getElem?_append_left (by rw [h.lc]; exact hi)] at hu'
        rw [List.getElem?_append_left (by rw [h.lk]; exact hi)] at ht'
        exact (h.up hK).row i u' ts' hu' ht'
      · rw [List.getElem?_append_right (by rw [h.lc]; exact hi), h.lc] at hu'
        rw [List.getElem?_append_right (by rw [h.lk]; exact hi), h.lk] at ht'
        obtain ⟨q, hq⟩ : ∃ q, i - v = q := ⟨_, rfl⟩
        rw [hq] at hu' ht'
        cases q with
        | zero => simp at hu' ht'; subst hu'; subst ht'; exact ⟨ho, hu⟩
        | succ q => simp at hu'
    key := fun i ts' ht' => by
      rcases Nat.lt_or_ge i v with hi | hi
      · rw [List.getElem?_append_left (by rw [h.lk]; exact hi)] at ht'
        exact h.key i ts' ht'
      · rw [List.getElem?_append_right (by rw [h.lk]; exact hi), h.lk] at ht'
        obtain ⟨q, hq⟩ : ∃ q, i - v = q := ⟨_, rfl⟩
        rw [hq] at ht'
        cases q with
        | zero => simp at ht'; subst ht'; have : i = v := by omega
                  subst this; exact ⟨hp, hs⟩
        | succ q => simp at ht' }
theorem KeyS.boxes (h : KeyS w1 w D n B2 B3 B4 gk al cl lab m n cs ks K) (hk : Own w D (.slice (some ⟨gk, 0, none⟩) n n) 122 cs) (hl : lab.length = n) (hb : ∀ x ∈ lab, 0 ≤ x ∧ x ≤ 1000000) (hn : n ≤ 1000) :
    Boxes w B2 B3 B4 n lab ks al cl (some ⟨gk, 0, none⟩) n where
  b2 := by obtain ⟨g, e, _, hl, _⟩ := h.x2.at_form (by omega); cases e; exact hl
  b3 := by obtain ⟨g, e, _, hl, _⟩ := h.x3.at_form (by omega); cases e; exact hl
  b4 := by obtain ⟨g, e, _, hl, _⟩ := h.x4.at_form (by omega); cases e; exact hl
  c2 := by rw [h.x2.cell 0 (by simp)]; rfl
  c3 := by rw [h.x3.cell 0 (by simp)]; rfl
  c4 := by rw [h.x4.cell 0 (by simp)]; rfl
  rl := h.xl.toInts (by unfold maxLen; omega)
  ln := hl
  lb := hb
  kn := h.lk
  row := fun i ts ht => by
    have hin : i < n := by have := (List.getElem?_eq_some_iff.1 ht).1; rw [h.lk] at this; exact this
    have hic : i < cs.length := by rw [h.lc]; exact hin
    obtain ⟨h1, h2⟩ := h.row i cs[i] ts (List.getElem?_eq_getElem hic) ht
    obtain ⟨hp, _⟩ := h.key i ts ht
    have htl : ts.length = n := by rw [hp.length_eq, triTo_len]
    obtain ⟨a, c, e⟩ := h1.any_form
    obtain ⟨g, e9, _, hlt, _⟩ := hk.at_form (by omega)
    cases e9
    rw [e] at h1
    refine ⟨gk, a, c, rfl, hlt, ?_, h1.tri (by omega), htl⟩
    rw [hk.cell i hic, List.getElem?_eq_getElem hic, e, htl]
theorem tl_tri (lab : List Int) (m : List (List Int)) (v u : Nat) : tl (tri lab m v u) = Plain.triple lab m v u := rfl
theorem KeyS.rowR (h : KeyS w1 w D n B2 B3 B4 gk al cl lab m n cs ks K) {x : Nat} (hx : x < n) : rowR lab ks x = keyL n lab m x := by
  have hxk : x < ks.length := by rw [h.lk]; exact hx
  obtain ⟨hp, hs⟩ := h.key x ks[x] (List.getElem?_eq_getElem hxk)
  have h1 : ks[x].map tl = sortTo (Plain.triple lab m x) n := by
    refine sortTo_unique ?_ ?_
    · have := hp.map tl
      rw [triTo, List.map_map] at this
      exact this
    · rw [List.pairwise_map]; exact hs
  unfold YtjjjohmppehejaaGreat.rowR keyL
  rw [List.getElem?_eq_getElem hxk, Option.getD_some, ← h1]
  rfl
end
theorem KeyS.begin_ {w1 w3 w5 : World} {E n gk : Nat} {al : Option Addr} {cl : Nat} {lab : List Int} (m : List (List Int)) (ho : Own w3 E (.slice al n cl) 3 (ints lab)) (hb : Below E w1 w3) (hE : E ≤ w3.heap.size)
    (hk : Own w5 E (.slice (some ⟨gk, 0, none⟩) n n) 122 (List.replicate n (.slice none 0 0))) (hg : (w3.alloc (.cells #[.slice al n cl] 23)).grownBy w5 none) :
    KeyS w1 ((w5.alloc (.cells #[.slice (some ⟨gk, 0, none⟩) n n] 119)).alloc (.cells #[.func (.func 93) #[] #[]] 121)) E n w3.heap.size w5.heap.size (w5.heap.size + 1) gk al cl lab m 0 [] [] (w5.heap.size + 2) ∧
    Own ((w5.alloc (.cells #[.slice (some ⟨gk, 0, none⟩) n n] 119)).alloc (.cells #[.func (.func 93) #[] #[]] 121)) E (.slice (some ⟨gk, 0, none⟩) n n) 122 (List.replicate n (.slice none 0 0)) := by
  have hs : w3.heap.size + 1 ≤ w5.heap.size := by have := hg.size; simpa using this
  have h2 : Own (w3.alloc (.cells #[.slice al n cl] 23)) E (.slice (some ⟨w3.heap.size, 0, none⟩) 1 1) 23 [.slice al n cl] := Own.new 23 [.slice al n cl] hE (by unfold maxLen; simp)
  have h3 : Own (w5.alloc (.cells #[.slice (some ⟨gk, 0, none⟩) n n] 119)) E (.slice (some ⟨w5.heap.size, 0, none⟩) 1 1) 119 [.slice (some ⟨gk, 0, none⟩) n n] := Own.new 119 [.slice (some ⟨gk, 0, none⟩) n n] (by omega) (by unfold maxLen; simp)
  have h4 : Own ((w5.alloc (.cells #[.slice (some ⟨gk, 0, none⟩) n n] 119)).alloc (.cells #[.func (.func 93) #[] #[]] 121)) E (.slice (some ⟨(w5.alloc (.cells #[.slice (some ⟨gk, 0, none⟩) n n] 119)).heap.size, 0, none⟩) 1 1) 121 [.func (.func 93) #[] #[]] := Own.new 121 [.func (.func 93) #[] #[]] (by simp; omega) (by unfold maxLen; simp)
  have hsz : (w5.alloc (.cells #[.slice (some ⟨gk, 0, none⟩) n n] 119)).heap.size = w5.heap.size + 1 := by simp
  rw [hsz] at h4
  have nn : ∀ o : Option Nat, o = none ∨ o ≠ none := fun o => by cases o <;> simp
  refine ⟨⟨((h2.kept hg (nn _)).alloc _).alloc _, h3.alloc _, h4, (((ho.alloc _).kept hg (nn _)).alloc _).alloc _, by omega, by omega, by omega, by omega, fun g hg' => ?_, rfl, rfl, fun i u ts hu => by simp at hu, fun i ts ht => by simp at ht, ?_⟩, (hk.alloc _).alloc _⟩
  · rcases ho.blk with e | ⟨g', _, e, _, hl, _⟩
    · rw [e] at hg'; cases hg'
    · rw [e] at hg'; cases hg'; omega
  · have h1 : Below E w1 w5 := (hb.alloc hE _).grown hg (by simp; omega) (fun k hk => by cases hk)
    exact (h1.alloc (by omega) _).alloc (by simp; omega) _
theorem Plain.IsPart.congr {R R' : Nat → List Int} {S : Nat → Prop} {P : List (List Nat)} (h : IsPart R S P) (he : ∀ i, S i → R i = R' i) : IsPart R' S P where
  asc := h.asc
  cover := h.cover
  same := fun c hc i hi j hj => by
    rw [← he i ((h.cover i).1 ⟨c, hc, hi⟩), ← he j ((h.cover j).1 ⟨c, hc, hj⟩)]
    exact h.same c hc i hi j hj
  ord := by
    have := h.ord
    rw [List.pairwise_iff_getElem] at this ⊢
    intro a b ha hb hab i hi j hj
    rw [← he i ((h.cover i).1 ⟨_, List.getElem_mem _, hi⟩), ← he j ((h.cover j).1 ⟨_, List.getElem_mem _, hj⟩)]
    exact this a b ha hb hab i hi j hj
/-- What grouped answers is what the reference's round answers. -/
theorem round_eq {n : Nat} {l m : List (List Int)} {R : Nat → List Int} (hR : ∀ x, x < n → R x = keyL n (labelsL n l) m x) {P : List (List Nat)} (hP : IsPart R (· < n) P) : P.map (·.map Int.ofNat) = roundL n l m := by
  obtain ⟨Q, hQ, hp⟩ := round_part n l m
  have h2 : IsPart R (· < n) Q := hp.congr fun i hi => by rw [rowsL_at hi, hR i hi]
  rw [hQ, IsPart.unique hP h2]
end Go.Proofs.YtjjjohmppehejaaGreat

namespace Go.Proofs.YtjjjohmppehejaaGreat
open Go.RowKit Go.Sort Go.Shelf Plain

set_option maxHeartbeats 400000 in
theorem of1_calls (w : World) (B n : Nat) (lab : List Int) (al : Option Addr) (cl : Nat) (hB : w.cell? ⟨B, 0, none⟩ = some (.slice al n cl)) (hl : Ints w al lab) (hn : lab.length = n) (x y : Nat) (hx : x < n) (hy : y < n) :
    Calls Tryz.prog 107 #[.int .i64 x, .int .i64 y, .pointer (some ⟨B, 0, none⟩)] w fun e w' => e = .returned (.int .i64 (cmpL [lab[x]?.getD 0] [lab[y]?.getD 0])) ∧ Grew w w' := by
  obtain ⟨g, o, rfl, hgl, hlx⟩ := hl.at_ (k := x) (by rw [hn]; exact hx)
  obtain ⟨g', o', e3, _, hly⟩ := hl.at_ (k := y) (by rw [hn]; exact hy)
  cases e3
  obtain ⟨lx, hlxe⟩ : ∃ lx, lab[x]?.getD 0 = lx := ⟨_, rfl⟩
  obtain ⟨ly, hlye⟩ : ∃ ly, lab[y]?.getD 0 = ly := ⟨_, rfl⟩
  rw [hlxe] at hlx ⊢
  rw [hlye] at hly ⊢
  have hxn : (x : Int) < n := by omega
  have hyn : (y : Int) < n := by omega
  have hc := Lib.hid (fun m => cmpInt_calls lx ly (w.drewN m))
  clear hlxe hlye hl hn hgl
  go_enter Tryz.func107, Tryz.ntmps107
  go_wp2
  go_quiet ((go_at_call 66; exact Calls.quiet_of_same (hc.out _)))
  go_wp2
  go_ret
  exact ⟨rfl, (Grew.refl w).drewN _⟩

set_option maxHeartbeats 400000 in
theorem of_calls (n : Nat) (hn : n ≤ 64) (a : Option Addr) (c : Nat) (lab : List Int) (w : World) (hl : Ints w a lab) (hln : lab.length = n) :
    Calls Tryz.prog 88 #[.slice a n c] w fun e w' => ∃ a c P, e = .returned (.tuple #[.slice a (P.map (·.map Int.ofNat)).length c, .int .i64 0]) ∧ Rows w' a (P.map (·.map Int.ofNat)) ∧ IsPart (fun x => [lab[x]?.getD 0]) (· < n) P ∧ Below w.heap.size w w' := by
  have hb : Below w.heap.size w (w.alloc (.cells #[.slice a n c] 23)) := (Below.refl _ _).alloc (Nat.le_refl _) _
  have hl1 := hl.below hb
  have hbx : (w.alloc (.cells #[.slice a n c] 23)).cell? ⟨w.heap.size, 0, none⟩ = some (.slice a n c) := by
    have := cell_one_new w (.slice a n c) 23 0 _ rfl
    rw [add_zero_addr] at this; exact this
  have hok : CmpOk (w.alloc (.cells #[.slice a n c] 23)) 107 #[.pointer (some ⟨w.heap.size, 0, none⟩)] n (fun x y => cmpL [lab[x]?.getD 0] [lab[y]?.getD 0]) :=
    ⟨enters_of Tryz.func107 (by kernel_rfl) rfl, fun W hW x y hx hy => of1_calls W w.heap.size n lab a c (by rw [hW.cell (by simp)]; exact hbx) (hl1.below hW) hln x y hx hy⟩
  have hg := grouped_calls n (by omega) (fun x => [lab[x]?.getD 0]) 107 _ _ _ hok (fun x y _ _ => ⟨Iff.rfl, fun h => cmpL_zero h, fun h => by rw [h, cmpL_self]⟩)
  have H := Lib.hid (And.intro hg hb)
  clear hg hb hl1 hbx hok hl hln
  go_enter Tryz.func88, Tryz.ntmps88
  go_wp2_with (go_at_call 95; refine H.out.1.mono ?_; rintro e w1 ⟨a1, c1, P, rfl, hr, hp, hb1⟩; have H1 := Lib.hid (And.intro hr (And.intro hp hb1)); clear hr hp hb1)
  go_ret2
  exact ⟨a1, c1, P, by rw [List.length_map]; rfl, H1.out.1, H1.out.2.1, H.out.2.trans (H1.out.2.2.mono (by simp))⟩
end Go.Proofs.YtjjjohmppehejaaGreat

namespace Go.Proofs.YtjjjohmppehejaaGreat
open Go.RowKit Plain

theorem Rows.empty {w : World} {a : Option Addr} : Rows w a [] := ⟨[], Row.empty, rfl, fun i u xs hu => by simp at hu⟩
def ofA (l : List Int) : List (List Int) × Int := if 64 < l.length then ([], 4) else (collect (l.map fun x => [x]), 0)
theorem part_collect {rows : List (List Int)} {R : Nat → List Int} {n : Nat} (hn : rows.length = n) (hR : ∀ i, i < n → R i = rows[i]?.getD []) {P : List (List Nat)} (hP : IsPart R (· < n) P) : P.map (·.map Int.ofNat) = collect rows := by
  obtain ⟨Q, h1, h2⟩ := collect_part rows
  rw [hn] at h2
  have h3 : IsPart (fun k => rows[k]?.getD []) (· < n) P := hP.congr hR
  rw [h1, h3.unique h2]

theorem ofE_calls (a : Option Addr) (c : Nat) (l : List Int) (w : World) (hl : Ints w a l) :
    Calls Tryz.prog 88 #[.slice a l.length c] w fun e w' => ∃ a c, e = .returned (.tuple #[.slice a (ofA l).1.length c, .int .i64 (ofA l).2]) ∧ Rows w' a (ofA l).1 ∧ Below w.heap.size w w' := by
  by_cases h : 64 < l.length
  · have hA : ofA l = ([], 4) := by rw [ofA, if_pos h]
    rw [hA]
    have hm := hl.len
    obtain ⟨L, hL⟩ : ∃ L, L = l.length := ⟨_, rfl⟩
    rw [← hL] at h hm ⊢
    have hb : Below w.heap.size w (w.alloc (.cells #[.slice a L c] 23)) := (Below.refl _ _).alloc (Nat.le_refl _) _
    have hcc : (w.alloc (.cells #[.slice a L c] 23)).cell? ⟨w.heap.size, 0, none⟩ = some (.slice a L c) := by simp [go_sem]
    have Hb := Lib.hid hb
    clear hL hA hl hb
    go_enter Tryz.func88, Tryz.ntmps88
    go_wp2
    go_ret2
    exact ⟨none, 0, rfl, Rows.empty, Hb.out⟩
  · have hA : ofA l = (collect (l.map fun x => [x]), 0) := by rw [ofA, if_neg h]
    rw [hA]
    refine (of_calls l.length (by omega) a c l w hl rfl).mono ?_
    rintro e w' ⟨a', c', P, rfl, hr, hp, hb⟩
    have := part_collect (rows := l.map fun x => [x]) (by simp) (fun i hi => by simp [List.getElem?_eq_getElem hi]) hp
    rw [← this]
    exact ⟨a', c', rfl, hr, hb⟩

end Go.Proofs.YtjjjohmppehejaaGreat
