/- The matrix of a graph, the program's. -/
import Derived.Test.YtifkieopaoooeaaDoorMat
import Derived.Test.YtifkieopaoooeaaDoorPlainAdj
import Derived.Test.YtifkieopaoooeaaDoorOwnE
import Derived.StillTailTactics
set_option linter.unusedSimpArgs false
set_option linter.unusedVariables false
namespace Go.Proofs.YtifkieopaoooeaaDoor
open Go.RowKit Plain PlainG
/-- The matrix of edges. -/
def adjF (es : List (Int × Int)) (i k : Nat) : Int := if adj es i k = true then 1 else 0
theorem adjF_nil : adjF [] = fun _ _ => 0 := by funext i k; simp [adjF, adj]
theorem adjF_app (es : List (Int × Int)) (x y : Nat) : (fun a b => if a = y ∧ b = x then (1 : Int) else if a = x ∧ b = y then 1 else adjF es a b) = adjF (es ++ [((x : Int), (y : Int))]) := by
  funext a b
  unfold adjF
  have : adj (es ++ [((x : Int), (y : Int))]) a b = (adj es a b || ((a == x && b == y) || (a == y && b == x))) := by
    unfold adj
    rw [List.any_append]
    congr 1
    rw [Bool.eq_iff_iff]
    simp
    omega
  rw [this]
  by_cases h1 : a = y ∧ b = x
  · rw [if_pos h1, if_pos (by simp [h1])]
  · rw [if_neg h1]
    by_cases h2 : a = x ∧ b = y
    · rw [if_pos h2, if_pos (by simp [h2])]
    · rw [if_neg h2]
      have : ((a == x && b == y) || (a == y && b == x)) = false := by
        rw [Bool.eq_false_iff]
        intro h
        simp at h
        rcases h with h | h
        · exact h2 h
        · exact h1 h
      rw [this, Bool.or_false]
theorem adjF_app' (es : List (Int × Int)) (x y : Nat) : (fun a b => if a = x ∧ b = y then (1 : Int) else if a = y ∧ b = x then 1 else adjF es a b) = adjF (es ++ [((x : Int), (y : Int))]) := by
  rw [← adjF_app]
  funext a b
  by_cases h1 : a = y ∧ b = x <;> by_cases h2 : a = x ∧ b = y <;> simp [h1, h2]
set_option maxRecDepth 100000 in
set_option maxHeartbeats 4000000 in
theorem gmatrix_calls {w : World} {a b : Option Addr} {c d L M : Nat} {n : Nat} {es : List (Int × Int)} (he : Edg w a es) (hL : es.length = L) (hn : n ≤ 100) (hev : ∀ x ∈ es, 0 ≤ x.1 ∧ x.1 < n ∧ 0 ≤ x.2 ∧ x.2 < n) :
    Calls Tryd.prog 31 #[.agg #[.int .i64 (n : Int), .slice a L c, .slice b M d]] w fun e w' => ∃ G cs, e = .returned (.slice (some ⟨G, 0, none⟩) n n) ∧ OwnMat w' w.heap.size G n cs (matF n (adjF es)) ∧ Below w.heap.size w w' := by
  obtain ⟨i3, hi3, hz3, hs3, hb3⟩ := info_parts Tryd.info3
  obtain ⟨i29, hi29, hz29, hs29, hb29⟩ := info_parts Tryd.info22
  have I3 := Lib.hid (And.intro hi3 (And.intro hz3 (And.intro hs3 hb3)))
  have I29 := Lib.hid (And.intro hi29 (And.intro hz29 (And.intro hs29 hb29)))
  clear hi3 hz3 hs3 hb3 hi29 hz29 hs29 hb29
  have hmax := he.len
  rw [hL] at hmax
  obtain ⟨D, hD⟩ : ∃ D, w.heap.size = D := ⟨_, rfl⟩
  have hx0 : Below D w (w.alloc (.cells #[.int .i64 (n : Int), .slice a L c, .slice b M d] 26)) := by rw [← hD]; exact (Below.refl _ w).alloc (Nat.le_refl _) _
  have hbox : ∀ w2, Below (D + 1) (w.alloc (.cells #[.int .i64 (n : Int), .slice a L c, .slice b M d] 26)) w2 → w2.cell? ⟨D, 0, none⟩ = some (.int .i64 (n : Int)) ∧ w2.cell? ⟨D, 1, none⟩ = some (.slice a L c) := fun w2 h => by
    rw [← hD] at h ⊢
    exact ⟨(h.cell (p := ⟨w.heap.size, 0, none⟩) (Nat.lt_succ_self _)).trans (by simp), (h.cell (p := ⟨w.heap.size, 1, none⟩) (Nat.lt_succ_self _)).trans (by simp)⟩
  have hs1 : (w.alloc (.cells #[.int .i64 (n : Int), .slice a L c, .slice b M d] 26)).heap.size = D + 1 := by rw [← hD]; simp
  have H := Lib.hid (And.intro he (And.intro hL (And.intro hev (And.intro hx0 (And.intro hbox (And.intro hs1 hD))))))
  clear he hev hL hx0 hbox hs1
  go_enter Tryd.func31, Tryd.ntmps31
  go_wp2_with (at_make; refine mk1 rfl _ _ 40 22 rfl i29 (.slice none 0 0) 24 Tryd.underlying40 I29.out.1 I29.out.2.1 I29.out.2.2.1 I29.out.2.2.2 rfl (by omega) (D + 1) n rfl rfl (by omega) (by simp; omega) ?_; intro w1 hd hg hz1; have H1 := Lib.hid (And.intro hd hg); clear hd hg hz1)
  rw [H.out.2.2.2.2.2.1] at H1
  obtain ⟨W0, hW0⟩ : ∃ W0, W0 = w.alloc (.cells #[.int .i64 (n : Int), .slice a L c, .slice b M d] 26) := ⟨_, rfl⟩
  rw [← hW0] at H H1
  clear hW0
  obtain ⟨E, hE⟩ : ∃ E, D + 1 = E := ⟨_, rfl⟩
  rw [hE] at H H1 ⊢
  have hbl : Below E W0 w1 := (Below.refl _ _).grown H1.out.2 (by rw [H.out.2.2.2.2.2.1]; exact Nat.le_refl _) (fun k hk => by cases hk)
  have hm0 : OwnMat w1 E E n (List.replicate n (.slice none 0 0)) (begun n 0) := by rw [← begun_zero]; exact OwnMat.new H1.out.1
  have H2 := Lib.hid (And.intro hm0 hbl)
  have HE := Lib.hid (And.intro hE hD)
  clear hm0 hbl H1 hE hD
  go_loopw [12] (fun i wr => ∃ (k : Nat) (cs : List Value), k ≤ n ∧ i = .int .i64 k ∧ OwnMat wr E E n cs (begun n k) ∧ Below E W0 wr) (fun i _ => n - (intOf i).toNat)
  case atStart => exact ⟨0, _, by omega, rfl, H2.out.1, H2.out.2⟩
  case round =>
    clear H2
    obtain ⟨k, cs, hk, rfl, hm, hbl⟩ := hrel
    have hDr : E ≤ wr.heap.size := by have := hbl.size; have := H.out.2.2.2.2.2.1; omega
    obtain ⟨g0, g1⟩ := H.out.2.2.2.2.1 _ hbl
    by_cases hlt : k < n
    · obtain ⟨u0, hu0⟩ : ∃ u, cs[k]? = some u := ⟨_, List.getElem?_eq_getElem (by rw [hm.len]; exact hlt)⟩
      have Hu := Lib.hid hu0
      have H3 := Lib.hid (And.intro hm (And.intro hbl hDr))
      clear hm hbl hu0
      go_wp2_with (at_make; refine mk1 rfl _ _ 22 3 rfl i3 (.int .i64 0) 8 Tryd.underlying22 I3.out.1 I3.out.2.1 I3.out.2.2.1 I3.out.2.2.2 rfl (by omega) E n rfl rfl (by omega) H3.out.2.2 ?_; intro w2 hd hg hz1; have hm2 := H3.out.1.kept hg; have hcl := (hm2.top.cell k (by rw [hm2.len]; exact hlt)).trans Hu.out; have hfz := hm2.top.frozen k; rw [ints_zero] at hd; have H2 := Lib.hid (And.intro hd hg); clear hd hg hm2 hz1)
      refine ⟨⟨k + 1, cs.set k (.slice (some ⟨wr.heap.size, 0, none⟩) n n), by omega, by go_num, ?_, ?_⟩, by simp [intOf]; omega⟩
      · rw [← begun_set hlt]
        exact H3.out.1.row H2.out.2 (Nat.le_refl _) H2.out.1 k
      · exact (H3.out.2.1.grown H2.out.2 H3.out.2.2 (fun k hk => by cases hk)).setCell (Nat.le_refl _) _
    · obtain rfl : k = n := by omega
      have hm0 : OwnMat wr E E k cs (matF k (adjF (es.take 0))) := by rw [List.take_zero, adjF_nil, ← begun_all]; exact hm
      have H3 := Lib.hid (And.intro hm0 (And.intro hbl hDr))
      clear hm hm0 hbl hDr
      go_wp2
      go_loopw [25] (fun i wr => ∃ x : Nat, x ≤ L ∧ i = .int .i64 x ∧ OwnMat wr E E k cs (matF k (adjF (es.take x))) ∧ Below E W0 wr ∧ E ≤ wr.heap.size) (fun i _ => L - (intOf i).toNat)
      case atStart => exact ⟨0, Nat.zero_le _, rfl, H3.out.1, H3.out.2.1, H3.out.2.2⟩
      case round =>
        clear H3
        obtain ⟨j, hj, rfl, hm, hbl, hEr⟩ := hrel
        by_cases hjl : j < L
        · have hjn : j < es.length := by rw [H.out.2.1]; exact hjl
          obtain ⟨x, hx⟩ : ∃ x, es[j]? = some x := ⟨_, List.getElem?_eq_getElem hjn⟩
          have hxv := H.out.2.2.1 x (List.mem_of_getElem? hx)
          obtain ⟨x1, x2⟩ := x
          obtain ⟨x, rfl⟩ : ∃ i : Nat, x1 = i := ⟨x1.toNat, by simp only at hxv; omega⟩
          obtain ⟨y, rfl⟩ : ∃ j : Nat, x2 = j := ⟨x2.toNat, by simp only at hxv; omega⟩
          have hwb : Below w.heap.size w wr := by
            have h1 := H.out.2.2.2.1
            have h2 := HE.out
            rw [h2.2]
            exact h1.trans (hbl.mono (by omega))
          obtain ⟨B, o, rfl, hBl, c1, c2⟩ := (H.out.1.below hwb).at_ j _ hx
          simp only at c1 c2 hxv
          have hxn : x < k := by omega
          have hyn : y < k := by omega
          have htk : es.take (j + 1) = es.take j ++ [((x : Int), (y : Int))] := by rw [List.take_add_one, hx]; rfl
          obtain ⟨wx, hwx⟩ : ∃ wx, wx = wr.alloc (.cells #[.int .i64 (x : Int), .int .i64 (y : Int)] 45) := ⟨_, rfl⟩
          have x1 : wx.cell? ⟨wr.heap.size, 0, none⟩ = some (.int .i64 (x : Int)) := by rw [hwx]; simp
          have x2 : wx.cell? ⟨wr.heap.size, 1, none⟩ = some (.int .i64 (y : Int)) := by rw [hwx]; simp
          have hmx : OwnMat wx E E k cs (matF k (adjF (es.take j))) := by rw [hwx]; exact hm.kept (grown_alloc _ _ none)
          have hblx : Below E W0 wx := by rw [hwx]; exact hbl.alloc hEr _
          have hEx : E ≤ wx.heap.size := by rw [hwx]; simp; omega
          obtain ⟨q1, d1, u1, e11, e12, e13, e14⟩ := hmx.entry hxn hyn
          obtain ⟨q2, d2, u2, e21, e22, e23, e24⟩ := hmx.entry hyn hxn
          have hm2 := hmx.setF hxn u1 y 1
          obtain ⟨q3, d3, u3, e31, e32, e33, e34⟩ := hm2.entry hyn hxn
          rw [u2] at u3
          cases u3
          have HS := Lib.hid (And.intro hmx (And.intro hblx (And.intro hEx (And.intro htk (And.intro u1 (And.intro u2 (And.intro e14 (And.intro e24 hm2))))))))
          have HW := Lib.hid hwx
          have HN := Lib.hid (show wr.heap.size ≠ q1 ∧ wr.heap.size ≠ q2 ∧ E ≠ q1 ∧ E ≠ q2 from by
            have h1 := hm.rows.2 x _ _ u1 (List.getElem?_eq_getElem (by rw [hm.mlen]; exact hxn))
            have h2 := hm.rows.2 y _ _ u2 (List.getElem?_eq_getElem (by rw [hm.mlen]; exact hyn))
            have b1 := (h1.block_lt (g := q1) rfl).1
            have b2 := (h2.block_lt (g := q2) rfl).1
            refine ⟨by omega, by omega, ?_, ?_⟩
            · intro e; rcases h1.ne_type hm.top (by decide) with h | h
              · cases h
              · exact h (by rw [← e]; rfl)
            · intro e; rcases h2.ne_type hm.top (by decide) with h | h
              · cases h
              · exact h (by rw [← e]; rfl))
          clear hm hbl hmx hblx hx hwb htk u1 u2 hwx hm2
          go_wp2
          rw [← HW.out]
          clear HW
          have n1 : wr.heap.size ≠ q1 := HN.out.1
          have n2 : wr.heap.size ≠ q2 := HN.out.2.1
          have n3 : E ≠ q1 := HN.out.2.2.1
          have n4 : E ≠ q2 := HN.out.2.2.2
          go_region
          go_wp2
          have hm3 := (HS.out.2.2.2.2.2.2.2.2.setF hyn HS.out.2.2.2.2.2.1 x 1).drew
          have hf : (fun a b => if a = y ∧ b = x then (1 : Int) else if a = x ∧ b = y then 1 else adjF (es.take j) a b) = adjF (es.take (j + 1)) := by rw [adjF_app, HS.out.2.2.2.1]
          rw [hf] at hm3
          refine ⟨⟨j + 1, by omega, by go_num, hm3, ?_, ?_⟩, by simp [intOf]; omega⟩
          · exact ((HS.out.2.1.setCell (by simpa using HS.out.2.2.2.2.2.2.1) _).setCell (by simpa using HS.out.2.2.2.2.2.2.2.1) _).drew
          · simpa [World.setCell] using HS.out.2.2.1
        · obtain rfl : j = L := by omega
          have htk : es.take j = es := List.take_of_length_le (by rw [H.out.2.1]; omega)
          rw [htk] at hm
          have HS := Lib.hid (And.intro hm hbl)
          clear hm hbl
          go_wp2
          go_ret
          have h2 := HE.out
          refine ⟨E, cs, rfl, ?_, ?_⟩
          · have h3 := HS.out.1
            rw [h2.2]
            exact ⟨h3.top.mono (by omega), h3.rows.mono (by omega), h3.apart⟩
          · rw [h2.2]
            exact H.out.2.2.2.1.trans (HS.out.2.mono (by omega))
end Go.Proofs.YtifkieopaoooeaaDoor
