/- The comparison that Refine hands to grouped. -/
import Derived.Test.YtifkieopaoooeaaDoorTriple
import Derived.Deep.RegionHeld3
set_option linter.unusedSimpArgs false
set_option linter.unusedVariables false
namespace Go.Proofs.YtifkieopaoooeaaDoor
open Go.RowKit Go.Sort Go.Shelf Plain

/-- What Refine's comparison reads: the labels, the rows of triples, the comparison of triples, each in a box. -/
structure Boxes (w : World) (B2 B3 B4 : Nat) (n : Nat) (lab : List Int) (keys : List (List T3)) (al : Option Addr) (cl : Nat) (ak : Option Addr) (ck : Nat) : Prop where
  b2 : B2 < w.heap.size
  b3 : B3 < w.heap.size
  b4 : B4 < w.heap.size
  c2 : w.cell? ⟨B2, 0, none⟩ = some (.slice al n cl)
  c3 : w.cell? ⟨B3, 0, none⟩ = some (.slice ak n ck)
  c4 : w.cell? ⟨B4, 0, none⟩ = some (.func (.func 43) #[] #[])
  rl : Ints w al lab
  ln : lab.length = n
  lb : ∀ x ∈ lab, 0 ≤ x ∧ x ≤ 1000000
  kn : keys.length = n
  row : ∀ i xs, keys[i]? = some xs → ∃ b a c, ak = some ⟨b, 0, none⟩ ∧ b < w.heap.size ∧ w.cell? ⟨b, i, none⟩ = some (.slice a n c) ∧ Tri w a xs ∧ xs.length = n
theorem Boxes.below {w w' : World} {B2 B3 B4 n : Nat} {lab : List Int} {keys : List (List T3)} {al : Option Addr} {cl : Nat} {ak : Option Addr} {ck : Nat} (h : Boxes w B2 B3 B4 n lab keys al cl ak ck) (hb : Below w.heap.size w w') :
    Boxes w' B2 B3 B4 n lab keys al cl ak ck where
  b2 := Nat.lt_of_lt_of_le h.b2 hb.size
  b3 := Nat.lt_of_lt_of_le h.b3 hb.size
  b4 := Nat.lt_of_lt_of_le h.b4 hb.size
  c2 := by rw [hb.cell h.b2]; exact h.c2
  c3 := by rw [hb.cell h.b3]; exact h.c3
  c4 := by rw [hb.cell h.b4]; exact h.c4
  rl := h.rl.below hb
  ln := h.ln
  lb := h.lb
  kn := h.kn
  row := fun i xs hx => by
    obtain ⟨b, a, c, e, hl, hc, ht, hn⟩ := h.row i xs hx
    exact ⟨b, a, c, e, Nat.lt_of_lt_of_le hl hb.size, by rw [hb.cell hl]; exact hc, ht.below hb, hn⟩

set_option maxRecDepth 100000 in
set_option maxHeartbeats 1000000 in
theorem refine3_calls (w : World) (B2 B3 B4 n : Nat) (hn : n ≤ 1000) (lab : List Int) (keys : List (List T3)) (al : Option Addr) (cl : Nat) (ak : Option Addr) (ck : Nat) (h : Boxes w B2 B3 B4 n lab keys al cl ak ck) (x y : Nat) (hx : x < n) (hy : y < n) :
    Calls Tryd.prog 46 #[.int .i64 x, .int .i64 y, .pointer (some ⟨B2, 0, none⟩), .pointer (some ⟨B3, 0, none⟩), .pointer (some ⟨B4, 0, none⟩)] w fun e w' =>
      e = .returned (.int .i64 (orL [lab[x]?.getD 0 - lab[y]?.getD 0, cmpL (flat (keys[x]?.getD [])) (flat (keys[y]?.getD []))])) ∧ Grew w w' := by
  have hxk : keys[x]? = some (keys[x]?.getD []) := by rw [List.getElem?_eq_getElem (by rw [h.kn]; exact hx)]; rfl
  have hyk : keys[y]? = some (keys[y]?.getD []) := by rw [List.getElem?_eq_getElem (by rw [h.kn]; exact hy)]; rfl
  obtain ⟨kx, hkx⟩ : ∃ kx, keys[x]?.getD [] = kx := ⟨_, rfl⟩
  obtain ⟨ky, hky⟩ : ∃ ky, keys[y]?.getD [] = ky := ⟨_, rfl⟩
  obtain ⟨b, a1, d1, rfl, hb, hcx, htx, hnx⟩ := h.row x _ hxk
  obtain ⟨b', a2, d2, e2, hb', hcy, hty, hny⟩ := h.row y _ hyk
  cases e2
  obtain ⟨g, o, rfl, hgl, hlx⟩ := h.rl.at_ (k := x) (by rw [h.ln]; exact hx)
  obtain ⟨g', o', e3, _, hly⟩ := h.rl.at_ (k := y) (by rw [h.ln]; exact hy)
  cases e3
  have hlbx : 0 ≤ lab[x]?.getD 0 ∧ lab[x]?.getD 0 ≤ 1000000 := by
    have hl : x < lab.length := by rw [h.ln]; exact hx
    rw [List.getElem?_eq_getElem hl]; exact h.lb _ (List.getElem_mem _)
  have hlby : 0 ≤ lab[y]?.getD 0 ∧ lab[y]?.getD 0 ≤ 1000000 := by
    have hl : y < lab.length := by rw [h.ln]; exact hy
    rw [List.getElem?_eq_getElem hl]; exact h.lb _ (List.getElem_mem _)
  obtain ⟨lx, hlxe⟩ : ∃ lx, lab[x]?.getD 0 = lx := ⟨_, rfl⟩
  obtain ⟨ly, hlye⟩ : ∃ ly, lab[y]?.getD 0 = ly := ⟨_, rfl⟩
  rw [hkx] at htx hnx ⊢
  rw [hky] at hty hny ⊢
  rw [hlxe] at hlx hlbx ⊢
  rw [hlye] at hly hlby ⊢
  have hc := fun m => compareT_calls a1 a2 d1 d2 kx ky (w.drewN m) htx hty (by rw [hnx, hny])
  rw [hnx, hny] at hc
  have hc2 := h.c2
  have hc3 := h.c3
  have hc4 := h.c4
  have hw : IntKind.i64.wrap (lx - ly) = lx - ly := IntWalk.i64_in _ (by omega)
  obtain ⟨r, hr⟩ : ∃ r, cmpL (flat kx) (flat ky) = r := ⟨_, rfl⟩
  simp only [hr] at hc ⊢
  have Hc := Lib.hid hc
  clear hc hr hkx hky htx hty hnx hny hlxe hlye hlbx hlby hxk hyk hb'
  have l2 := h.b2
  have l3 := h.b3
  have l4 := h.b4
  clear h
  have hxn : (x : Int) < n := by omega
  have hyn : (y : Int) < n := by omega
  go_enter Tryd.func46, Tryd.ntmps46
  go_wp2
  go_region_held3 (fun w' => w'.cell? ⟨B2, 0, none⟩ = some (.slice (some ⟨g, o, none⟩) n cl) ∧ w'.cell? ⟨B3, 0, none⟩ = some (.slice (some ⟨b, 0, none⟩) n ck) ∧ w'.cell? ⟨B4, 0, none⟩ = some (.func (.func 43) #[] #[]) ∧
      w'.cell? ⟨g, o + x, none⟩ = some (.int .i64 lx) ∧ w'.cell? ⟨g, o + y, none⟩ = some (.int .i64 ly) ∧ w'.cell? ⟨b, x, none⟩ = some (.slice a1 n d1) ∧ w'.cell? ⟨b, y, none⟩ = some (.slice a2 n d2))
    (first
      | assumption
      | go_keep
      | (refine ⟨?_, ?_, ?_, ?_, ?_, ?_, ?_⟩
         · (rw [hB3.cell l2]; assumption)
         · (rw [hB3.cell l3]; assumption)
         · (rw [hB3.cell l4]; assumption)
         · (rw [hB3.cell hgl]; assumption)
         · (rw [hB3.cell hgl]; assumption)
         · (rw [hB3.cell hb]; assumption)
         · (rw [hB3.cell hb]; assumption)))
    (first
      | (go_at_call 48; refine (Hc.out 1).mono ?_; rintro e w3 ⟨rfl, hw3⟩; have hB3 : Below w.heap.size w w3 := (((Grew.refl w).drewN 1).trans hw3).below)
      | (go_at_call 47; refine (or_calls (some ⟨w3.heap.size, 0, none⟩) 2 [lx - ly, r] _ (Own.toInts (B := 0) (Own.new 3 (ints [lx - ly, r]) (Nat.zero_le _) (by unfold maxLen; simp [ints])) (by unfold maxLen; simp))).mono ?_; rintro e w4 ⟨rfl, rfl⟩))
  go_wp2
  go_ret
  exact ⟨rfl, (((Grew.refl w).drewN 1).trans hw3).alloc _⟩

def cfR (lab : List Int) (keys : List (List T3)) (x y : Nat) : Int := orL [lab[x]?.getD 0 - lab[y]?.getD 0, cmpL (flat (keys[x]?.getD [])) (flat (keys[y]?.getD []))]
/-- The row of a point: its label, then its triples. -/
def rowR (lab : List Int) (keys : List (List T3)) (x : Nat) : List Int := lab[x]?.getD 0 :: flat (keys[x]?.getD [])
theorem refine_cmp {w : World} {B2 B3 B4 n : Nat} (hn : n ≤ 1000) {lab : List Int} {keys : List (List T3)} {al : Option Addr} {cl : Nat} {ak : Option Addr} {ck : Nat} (h : Boxes w B2 B3 B4 n lab keys al cl ak ck) :
    CmpOk w 46 #[.pointer (some ⟨B2, 0, none⟩), .pointer (some ⟨B3, 0, none⟩), .pointer (some ⟨B4, 0, none⟩)] n (cfR lab keys) :=
  ⟨enters_of Tryd.func46 (by kernel_rfl) rfl, fun W hW x y hx hy => refine3_calls W B2 B3 B4 n hn lab keys al cl ak ck (h.below hW) x y hx hy⟩
theorem flat_len (xs : List T3) : (flat xs).length = xs.length * 3 := by
  induction xs with
  | nil => rfl
  | cons x r ih => simp only [flat, List.flatMap_cons, List.length_append, List.length_cons] at ih ⊢; rw [ih]; simp [tl]; omega
theorem refine_cf {n : Nat} {lab : List Int} {keys : List (List T3)} (hk : keys.length = n) (hr : ∀ xs ∈ keys, xs.length = n) (x y : Nat) (hx : x < n) (hy : y < n) :
    (cfR lab keys x y < 0 ↔ cmpL (rowR lab keys x) (rowR lab keys y) < 0) ∧ (cfR lab keys x y = 0 ↔ rowR lab keys x = rowR lab keys y) := by
  unfold cfR rowR
  obtain ⟨a, ha⟩ : ∃ a, lab[x]?.getD 0 = a := ⟨_, rfl⟩
  obtain ⟨b, hb⟩ : ∃ a, lab[y]?.getD 0 = a := ⟨_, rfl⟩
  obtain ⟨p, hp⟩ : ∃ a, keys[x]?.getD [] = a := ⟨_, rfl⟩
  obtain ⟨q, hq⟩ : ∃ a, keys[y]?.getD [] = a := ⟨_, rfl⟩
  rw [ha, hb, hp, hq, cmpL_step]
  unfold orL orL orL
  rcases Int.lt_trichotomy a b with h | h | h
  · rw [cmpL_lt h, if_pos (by omega)]
    simp only [ne_eq, if_true, List.cons.injEq]
    refine ⟨by simp; omega, by constructor <;> (intro h2; omega)⟩
  · subst h
    have e0 : cmpL [a] [a] = 0 := cmpL_self _
    rw [if_neg (by omega), e0]
    simp only [ne_eq, not_true_eq_false, if_false, List.cons.injEq, true_and]
    have e1 : (if ¬ cmpL (flat p) (flat q) = 0 then cmpL (flat p) (flat q) else 0) = cmpL (flat p) (flat q) := by
      split
      · rfl
      · rename_i h; simp at h; exact h.symm
    rw [e1]
    exact ⟨Iff.rfl, fun h => cmpL_zero h, fun h => by rw [h, cmpL_self]⟩
  · rw [cmpL_gt h, if_pos (by omega)]
    simp only [List.cons.injEq]
    refine ⟨by simp; omega, by constructor <;> (intro h2; omega)⟩
end Go.Proofs.YtifkieopaoooeaaDoor
