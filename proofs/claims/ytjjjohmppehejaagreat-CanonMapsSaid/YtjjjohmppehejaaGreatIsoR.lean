/- The reference's isomorphism: the least one with forced images. -/
import Derived.Test.YtjjjohmppehejaaGreatRefX
import Derived.Laws.Cover3
set_option linter.unusedSimpArgs false
set_option linter.unusedVariables false
namespace Go.Proofs.YtjjjohmppehejaaGreat
open Go.RowKit Plain PlainG PlainX
/-- What isomorphism answers. -/
def isoA (n m : Nat) (A B : Adj) (cg ch : List Int) (fs : List Nat) : Option (List Nat) := if n = m then refF A B cg ch n fs n [] else none
theorem own_nil_eq {w : World} {B : Nat} {r : Value} {e : TypeId} {xs : List Value} (h : Own w B r e xs) : (∃ a c, r = .slice a xs.length c ∧ (a = none → xs.length = 0)) := by
  rcases h.2 with ⟨rfl, h0⟩ | ⟨g, cap, cur, rfl, _⟩
  · exact ⟨none, 0, by rw [h0], fun _ => h0⟩
  · exact ⟨_, _, rfl, fun e => by cases e⟩
theorem RefRes.val {w w' : World} {o : Option (List Nat)} {e : Ending} (h : RefRes w o e w') : ∃ r, e = .returned r ∧ RefRes w o (.returned r) w' := by
  cases o with
  | none => exact ⟨_, h, rfl⟩
  | some q => obtain ⟨r, e, h⟩ := h; exact ⟨r, e, r, rfl, h⟩
theorem RefRes.mono {w w0 w' : World} {o : Option (List Nat)} {e : Ending} (h : RefRes w o e w') (hs : w0.heap.size ≤ w.heap.size) : RefRes w0 o e w' := by
  cases o with
  | none => exact h
  | some q => obtain ⟨r, h1, h2⟩ := h; exact ⟨r, h1, h2.mono hs⟩
set_option maxRecDepth 100000 in
set_option maxHeartbeats 4000000 in
theorem iso_calls {w : World} {n m : Nat} {eg eh : List E2} {cg ch : List Int} {fs : List Nat} {ga gb ha hb fa : Option Addr} {gc gd hc hd fc : Nat}
    (he1 : Edg w ga eg) (hc1 : Ints w gb cg) (he2 : Edg w ha eh) (hc2 : Ints w hb ch) (hg : ∀ x ∈ eg, 0 ≤ x.1 ∧ x.1 < n ∧ 0 ≤ x.2 ∧ x.2 < n) (hh : ∀ x ∈ eh, 0 ≤ x.1 ∧ x.1 < m ∧ 0 ≤ x.2 ∧ x.2 < m)
    (hl1 : cg.length = n) (hl2 : ch.length = m) (hn : n ≤ 100) (hfs : fs.length ≤ n) (hf : Ints w fa (frcL n fs)) :
    Calls Tryz.prog 35 #[.agg #[.int .i64 (n : Int), .slice ga eg.length gc, .slice gb n gd], .agg #[.int .i64 (m : Int), .slice ha eh.length hc, .slice hb m hd], .slice fa n fc] w fun e w' =>
      TryRes w (isoA n m (adj eg) (adj eh) cg ch fs) e w' ∧ Below w.heap.size w w' := by
  obtain ⟨L, hL⟩ : ∃ L, eg.length = L := ⟨_, rfl⟩
  obtain ⟨M, hM⟩ : ∃ M, eh.length = M := ⟨_, rfl⟩
  rw [hL, hM]
  obtain ⟨W1, hW1⟩ : ∃ W1, (w.alloc (.cells #[.int .i64 (n : Int), .slice ga L gc, .slice gb n gd] 25)).alloc (.cells #[.int .i64 (m : Int), .slice ha M hc, .slice hb m hd] 25) = W1 := ⟨_, rfl⟩
  have hbw : Below w.heap.size w W1 := by rw [← hW1]; exact alloc_b (alloc_b (Below.refl _ _) _) _
  obtain ⟨X, hX⟩ : ∃ X, w.heap.size = X := ⟨_, rfl⟩
  have x0 : W1.cell? ⟨X, 0, none⟩ = some (.int .i64 (n : Int)) := by rw [← hW1, ← hX]; simp
  have x1 : W1.cell? ⟨X, 1, none⟩ = some (.slice ga L gc) := by rw [← hW1, ← hX]; simp
  have x2 : W1.cell? ⟨X, 2, none⟩ = some (.slice gb n gd) := by rw [← hW1, ← hX]; simp
  have y0 : W1.cell? ⟨X + 1, 0, none⟩ = some (.int .i64 (m : Int)) := by rw [← hW1, ← hX]; simp
  have y1 : W1.cell? ⟨X + 1, 1, none⟩ = some (.slice ha M hc) := by rw [← hW1, ← hX]; simp
  have y2 : W1.cell? ⟨X + 1, 2, none⟩ = some (.slice hb m hd) := by rw [← hW1, ← hX]; simp
  have hs1 : W1.heap.size = X + 2 := by rw [← hW1, ← hX]; simp
  by_cases hnm : n = m
  · subst hnm
    have HK1 := Lib.hid (fun (W : World) (k : Below (X + 2) W1 W) => gmatrixR_calls (c := gc) (d := gd) (b := gb) (M := n) ((he1.below hbw).below (by rw [hs1]; exact k)) hL hn hg)
    have HK2 := Lib.hid (fun (W : World) (k : Below (X + 2) W1 W) => gmatrixR_calls (c := hc) (d := hd) (b := hb) (M := n) ((he2.below hbw).below (by rw [hs1]; exact k)) hM hn hh)
    have HR := Lib.hid (fun (W : World) (k : Below (X + 2) W1 W) (G1 G2 ac bc : Nat) (r1 : Rows W (some ⟨G1, 0, none⟩) (matF n (adjF eg))) (r2 : Rows W (some ⟨G2, 0, none⟩) (matF n (adjF eh))) =>
      have k' : Below W1.heap.size W1 W := by rw [hs1]; exact k
      (refx_calls (fs := fs) (ga := ga) (ha := ha) (gc := gc) (gd := gd) (hc := hc) (hd := hd) (ac := ac) (bc := bc) (fc := fc) hn hl1 hl2 hfs n [] none 0 0 W rfl (by omega) (by simp) ((hc1.below hbw).below k') ((hc2.below hbw).below k') r1 r2 ((hf.below hbw).below k') Row.nil (by omega) (fun _ => ⟨rfl, rfl⟩) (.inl rfl)).mono (R' := fun e w' => RefRes W1 (refF (adj eg) (adj eh) cg ch n fs n []) e w' ∧ Below (X + 2) W1 w' ∧ Below W.heap.size W w') fun e w' h => ⟨h.1.mono k'.size, k.trans (h.2.mono (by have := k'.size; omega)), h.2⟩)
    rw [hL, hM] at HR
    have hiso : isoA n n (adj eg) (adj eh) cg ch fs = refF (adj eg) (adj eh) cg ch n fs n [] := by simp [isoA]
    rw [hiso]
    obtain ⟨o, ho⟩ : ∃ o, refF (adj eg) (adj eh) cg ch n fs n [] = o := ⟨_, rfl⟩
    rw [ho] at HR ⊢
    have H := Lib.hid (And.intro hbw ho)
    have hD1 : X + 2 ≤ W1.heap.size := by omega
    have hx0 := And.intro x0 (And.intro x1 (And.intro x2 (And.intro y0 (And.intro y1 (And.intro y2 (Below.refl (X + 2) W1))))))
    clear hbw he1 he2 hc1 hc2 hf hiso ho
    go_enter Tryz.func35, Tryz.ntmps35
    go_upto_region 3 with (fail)
    clear hW1
    go_cut [8] (fun u8 wx => RefRes W1 o (.returned u8) wx ∧ Below (X + 2) W1 wx)
    case first =>
      go_region_held3 (fun W => W.cell? ⟨X, 0, none⟩ = some (.int .i64 (n : Int)) ∧ W.cell? ⟨X, 1, none⟩ = some (.slice ga L gc) ∧ W.cell? ⟨X, 2, none⟩ = some (.slice gb n gd) ∧ W.cell? ⟨X + 1, 0, none⟩ = some (.int .i64 (n : Int)) ∧ W.cell? ⟨X + 1, 1, none⟩ = some (.slice ha M hc) ∧ W.cell? ⟨X + 1, 2, none⟩ = some (.slice hb n hd) ∧ Below (X + 2) W1 W)
        (first
          | assumption
          | exact hx0
          | exact keepG hD1 (by assumption) (by first | assumption | exact below_self_drewN _ _)
          | exact keepG hD1 hx0 (by first | assumption | exact below_self_drewN _ _))
        (first
          | (go_at_call 50; (with_reducible refine (HK1.out _ (by first | exact keepG_last (by assumption) | exact below_self_drewN _ _)).mono ?_); rintro e w2 ⟨G1, c1, rfl, hm1, hw2⟩; have r1 := hm1.rowsF (by omega); (try (have r2 := r2.below hw2)); clear hm1)
          | (go_at_call 50; (with_reducible refine (HK2.out _ (by first | exact keepG_last (by assumption) | exact below_self_drewN _ _)).mono ?_); rintro e w2 ⟨G2, c2, rfl, hm2, hw2⟩; have r2 := hm2.rowsF (by omega); (try (have r1 := r1.below hw2)); clear hm2)
          | (go_at_call 49; (with_reducible refine (HR.out _ (keepG_last (by assumption)) _ _ _ _ r1 r2).mono ?_); rintro e w7 ⟨he, hb7, hw7⟩; obtain ⟨u, rfl, he⟩ := he.val; have HZ := Lib.hid (And.intro he hb7); clear he hb7))
      all_goals go_wp2
      all_goals go_meet
      all_goals exact HZ.out
    case rest =>
      obtain ⟨hr, hb⟩ := hcut
      have y0' := (hb.cell (p := ⟨X, 0, none⟩) (show X < X + 2 by omega)).trans x0
      have hbw : Below w.heap.size w wc := H.out.1.trans (hb.mono (by rw [hX]; omega))
      have hsz : w.heap.size ≤ W1.heap.size := H.out.1.size
      have hlen := H.out.2
      clear x0 x1 x2 y0 y1 y2 hx0 HK1 HK2 HR H hb
      cases o with
      | none =>
        cases hr
        have hn0 : n ≠ 0 := by
          rintro rfl
          simp [refF] at hlen
        have hd : ((n : Int) == 0) = false := by simpa using hn0
        have HB := Lib.hid hbw
        clear hbw hsz hlen hn0
        go_wp2
        go_quiet (fail)
        go_wp2
        go_ret2
        exact ⟨rfl, HB.out.trans (below_self_drewN _ _)⟩
      | some q =>
        obtain ⟨r, er, ho⟩ := hr
        cases er
        have hql := refF_len hlen
        obtain ⟨a, c, rfl, hnil⟩ := own_nil_eq ho
        have ho2 := ho.mono (B' := w.heap.size) hsz
        simp only [ints_len, nts_len] at hnil ho2 ⊢
        obtain ⟨Q, hQ⟩ : ∃ Q, q.length = Q := ⟨_, rfl⟩
        rw [hQ] at hnil hql ho2 ⊢
        have HB := Lib.hid (And.intro hbw (And.intro ho2 hlen))
        clear hbw hsz hlen ho ho2
        cases a with
        | none =>
          have hQ0 := hnil rfl
          have hn0 : n = 0 := by simp at hql; omega
          subst hn0
          have hd : (((0 : Nat) : Int) == 0) = true := rfl
          clear hql hnil hQ
          go_wp2
          go_quiet (fail)
          go_wp2
          go_ret2
          exact ⟨⟨_, rfl, HB.out.2.1.drewN _⟩, HB.out.1.trans (below_self_drewN _ _)⟩
        | some ad =>
          clear hql hnil hQ
          go_wp2
          go_quiet (fail)
          go_wp2
          go_ret2
          exact ⟨⟨_, rfl, HB.out.2.1.drewN _⟩, HB.out.1.trans (below_self_drewN _ _)⟩
  · have hiso : isoA n m (adj eg) (adj eh) cg ch fs = none := if_neg hnm
    rw [hiso]
    have hd : ((n : Int) != (m : Int)) = true := by simp; omega
    have HB := Lib.hid hbw
    clear hbw he1 he2 hc1 hc2 hf hiso
    go_enter Tryz.func35, Tryz.ntmps35
    go_wp2
    go_ret2
    refine ⟨rfl, ?_⟩
    have := HB.out
    first | exact this | (rw [hX] at this; exact this)
end Go.Proofs.YtjjjohmppehejaaGreat
