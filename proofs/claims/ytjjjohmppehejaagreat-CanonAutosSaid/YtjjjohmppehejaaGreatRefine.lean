/- The program's Refine. -/
import Derived.Test.YtjjjohmppehejaaGreatSortB
import Derived.Test.YtjjjohmppehejaaGreatRefA
import Derived.Test.YtjjjohmppehejaaGreatLabs
import Derived.Deep.RegionHeld3
set_option linter.unusedSimpArgs false
set_option linter.unusedVariables false
namespace Go.Proofs
theorem Tryz.info122 : (Tryz.prog.info? 122).map (fun i => (i.zero, i.size, i.bytes)) = some (some (.slice none 0 0), 1, 24) := by kernel_rfl
theorem Tryz.info120 : (Tryz.prog.info? 120).map (fun i => (i.zero, i.size, i.bytes)) = some (some (.agg #[.int .i64 0, .int .i64 0, .int .i64 0]), 3, 24) := by kernel_rfl
end Go.Proofs
namespace Go.Proofs.YtjjjohmppehejaaGreat
open Go.RowKit Go.Sort Go.Shelf Plain

theorem badLen_mat {n : Nat} {m : List (List Int)} (h : m.length = n) : badLen n m = false ↔ IsMat n m := by
  unfold badLen IsMat
  constructor
  · intro hb
    refine ⟨h, fun r hr => ?_⟩
    have := List.any_eq_false.1 hb r hr
    simp at this
    omega
  · rintro ⟨_, hr⟩
    rw [List.any_eq_false]
    intro r hrm
    simp [hr r hrm]

theorem Plain.Good.cell_le {n : Nat} {l : List (List Int)} (h : Plain.Good n l) {c : List Int} (hc : c ∈ l) : c.length ≤ n :=
  nodup_len n c (h.nodup.sublist (List.sublist_flatten_of_mem hc)) (fun p hp => h.inr c hc p hp)
theorem rep_set {α : Type} {cs : List α} {k L : Nat} (hc : cs.length = k) (hk : k < L) (z u : α) : (cs ++ List.replicate (L - k) z).set k u = (cs ++ [u]) ++ List.replicate (L - (k + 1)) z := by
  subst hc
  obtain ⟨q, hq⟩ : ∃ q, L - cs.length = q + 1 := ⟨L - cs.length - 1, by omega⟩
  rw [hq, List.set_append_right _ _ (Nat.le_refl _), Nat.sub_self, List.replicate_succ, List.set_cons_zero, show L - (cs.length + 1) = q by omega]
  simp

theorem own3_snoc {w : World} {B : Nat} {v : Value} {n : Nat} {ts : List T3} {p : T3} (h : w.ownsRow B 120 3 v (n + 1) (ints (flat ts) ++ [.int .i64 p.1, .int .i64 p.2.1, .int .i64 p.2.2])) (hn : ts.length = n) : Own3 w B v (ts ++ [p]) := by
  unfold Own3
  have h1 : (ts ++ [p]).length = n + 1 := by simp [hn]
  have h2 : ints (flat (ts ++ [p])) = ints (flat ts) ++ [.int .i64 p.1, .int .i64 p.2.1, .int .i64 p.2.2] := by simp [ints, flat, tl]
  rw [h1, h2]
  exact h
theorem set_mid {α : Type} {ds rs : List α} {v : Nat} (h : ds.length = v) (x y : α) : (ds ++ x :: rs).set v y = ds ++ y :: rs := by
  subst h
  rw [List.set_append_right _ _ (Nat.le_refl _), Nat.sub_self, List.set_cons_zero]
theorem cell_put_ne {w : World} {g j : Nat} {u : Value} {p : Addr} (h : p.block ≠ g) : (w.setCell ⟨g, j, none⟩ u).cell? p = w.cell? p := World.cell?_of_block (Below.heap_setCell _ _ _ _ h)

set_option maxRecDepth 100000 in
set_option maxHeartbeats 4000000 in
theorem refine_callsB (n : Int) (al am : Option Addr) (cl cm : Nat) (l m : List (List Int)) (w : World) (hl : Rows w al l) (hm : Rows w am m) :
    Calls Tryz.prog 77 #[.int .i64 n, .slice al l.length cl, .slice am m.length cm] w fun e w' => ∃ a c, e = .returned (.tuple #[.slice a (refineA n l m).1.length c, .int .i64 (refineA n l m).2]) ∧ RowsB w.heap.size w' a (refineA n l m).1 ∧ Below w.heap.size w w' := by
  obtain ⟨i3, hi3, hz3, hs3, hb3⟩ := info_parts Tryz.info3
  obtain ⟨i29, hi29, hz29, hs29, hb29⟩ := info_parts Tryz.info23
  obtain ⟨i62, hi62, hz62, hs62, hb62⟩ := info_parts Tryz.info122
  obtain ⟨i59, hi59, hz59, hs59, hb59⟩ := info_parts Tryz.info120
  have I3 := Lib.hid (And.intro hi3 (And.intro hz3 (And.intro hs3 hb3)))
  have I29 := Lib.hid (And.intro hi29 (And.intro hz29 (And.intro hs29 hb29)))
  have I62 := Lib.hid (And.intro hi62 (And.intro hz62 (And.intro hs62 hb62)))
  have I59 := Lib.hid (And.intro hi59 (And.intro hz59 (And.intro hs59 hb59)))
  clear hi3 hz3 hs3 hb3 hi29 hz29 hs29 hb29 hi62 hz62 hs62 hb62 hi59 hz59 hs59 hb59
  obtain ⟨D, hD⟩ : ∃ D, D = w.heap.size := ⟨_, rfl⟩
  have hbl : Below D w (w.alloc (.cells #[.int .i64 n] 3)) := (Below.refl _ _).alloc (by omega) _
  have hbx : (w.alloc (.cells #[.int .i64 n] 3)).cell? ⟨D, 0, none⟩ = some (.int .i64 n) := by rw [hD]; have := cell_one_new w (.int .i64 n) 3 0 _ rfl; rw [add_zero_addr] at this; exact this
  have hsz : (w.alloc (.cells #[.int .i64 n] 3)).heap.size = D + 1 := by rw [hD]; simp
  have hl0 : Rows (w.alloc (.cells #[.int .i64 n] 3)) al l := hl.below (by rw [← hD]; exact hbl)
  have hm0 : Rows (w.alloc (.cells #[.int .i64 n] 3)) am m := hm.below (by rw [← hD]; exact hbl)
  have hck := check_calls n al cl l _ hl0
  rw [hsz] at hck
  by_cases h0 : chk n l = 0
  case neg =>
    rw [refineA_bad h0]
    obtain ⟨L, hL⟩ : ∃ L, L = l.length := ⟨_, rfl⟩
    rw [← hL] at hck ⊢
    obtain ⟨M, hM⟩ : ∃ M, M = m.length := ⟨_, rfl⟩
    rw [← hM]
    obtain ⟨r, hr⟩ : ∃ r, chk n l = r := ⟨_, rfl⟩
    rw [hr] at hck h0 ⊢
    have h1 : (r == 0) = false := by simpa using h0
    have h2 : (r != 0) = true := by simpa using h0
    have H := Lib.hid (And.intro hck (And.intro hbl hD))
    clear hck hL hM hr hl hm hl0 hm0 hbl hsz
    rw [← hD]
    clear hD
    go_enter Tryz.func77, Tryz.ntmps77
    go_wp2_with (go_at_call 89; refine H.out.1.mono ?_; rintro e w1 ⟨rfl, hb⟩; have H1 := Lib.hid hb; clear hb)
    go_ret2
    exact ⟨none, 0, rfl, RowsB.none, H.out.2.1.trans (H1.out.mono (by omega))⟩
  rw [h0] at hck
  obtain ⟨hn0, hn64, _⟩ := chk_zero h0
  obtain ⟨n, rfl⟩ := Int.eq_ofNat_of_zero_le hn0
  have hg := chk_good h0
  have hmx := hm.len
  obtain ⟨L, hL⟩ : ∃ L, L = l.length := ⟨_, rfl⟩
  rw [← hL] at hck ⊢
  obtain ⟨M, hM⟩ : ∃ M, M = m.length := ⟨_, rfl⟩
  by_cases hmn : M = n
  case neg =>
    rw [refineA_mat h0 (fun h => hmn (by rw [hM]; exact h.1)), ← hM]
    rw [← hM] at hmx
    have h1 : ((M : Int) == n) = false := by simp; omega
    have h2 : ((M : Int) != n) = true := by simp; omega
    have H := Lib.hid (And.intro hck (And.intro hbl (And.intro hD hbx)))
    clear hck hL hM hl hm hl0 hm0 hbl hsz h0 hg
    rw [← hD]
    have HD := Lib.hid hD
    clear hD hbx
    go_enter Tryz.func77, Tryz.ntmps77
    go_wp2_with fail
    rw [← HD.out]
    refine H.out.1.mono ?_
    rintro e w1 ⟨rfl, hb⟩
    have hbx1 : w1.cell? ⟨D, 0, none⟩ = some (.int .i64 (n : Int)) := by rw [hb.cell (Nat.lt_succ_self D)]; exact H.out.2.2.2
    have H1 := Lib.hid hb
    clear hb
    go_wp2
    go_ret2
    exact ⟨none, 0, rfl, RowsB.none, H.out.2.1.trans (H1.out.mono (by omega))⟩
  subst hmn
  rw [← hM] at hmx ⊢
  have hcon := fun (w1 : World) (h : Below (D + 1) (w.alloc (.cells #[.int .i64 (M : Int)] 3)) w1) => contains_calls am cm m M D w1 (hm0.below (by rw [hsz]; exact h)) (by rw [h.cell (Nat.lt_succ_self D)]; exact hbx)
  rw [← hM] at hcon
  have hbm := badLen_mat (n := M) hM.symm
  have H := Lib.hid (And.intro hck (And.intro hbl (And.intro hD (And.intro hbx (And.intro hcon (And.intro hbm (And.intro hsz (And.intro hl0 (And.intro hm0 (And.intro h0 (And.intro hg (And.intro hL hM))))))))))))
  clear hck hL hM hl hm hl0 hm0 hbl hsz h0 hg hcon hbm
  rw [← hD]
  have HD := Lib.hid hD
  clear hD hbx
  cases hbad : badLen (M : Int) m with
  | true =>
    have hno : ¬ IsMat M m := fun h => by rw [H.out.2.2.2.2.2.1.2 h] at hbad; cases hbad
    rw [refineA_mat H.out.2.2.2.2.2.2.2.2.2.1 hno]
    have Hbad := Lib.hid hbad
    clear hbad hno
    go_enter Tryz.func77, Tryz.ntmps77
    go_wp2_with fail
    rw [← HD.out]
    refine H.out.1.mono ?_
    rintro e w1 ⟨rfl, hb⟩
    have hbx1 : w1.cell? ⟨D, 0, none⟩ = some (.int .i64 (M : Int)) := by rw [hb.cell (Nat.lt_succ_self D)]; exact H.out.2.2.2.1
    have H1 := Lib.hid hb
    clear hb
    go_wp2_with ((go_at_call 90; refine (H.out.2.2.2.2.1 _ H1.out).mono ?_; rw [Hbad.out]; rintro e w' ⟨rfl, rfl⟩))
    go_ret2
    exact ⟨none, 0, rfl, RowsB.none, H.out.2.1.trans (H1.out.mono (by omega))⟩
  | false =>
    have hmat : IsMat M m := H.out.2.2.2.2.2.1.1 hbad
    rw [refineA_ok H.out.2.2.2.2.2.2.2.2.2.1 hmat]
    have Hbad := Lib.hid (And.intro hbad hmat)
    clear hbad hmat
    go_enter Tryz.func77, Tryz.ntmps77
    go_wp2_with fail
    rw [← HD.out]
    refine H.out.1.mono ?_
    rintro e w1 ⟨rfl, hb⟩
    have hbx1 : w1.cell? ⟨D, 0, none⟩ = some (.int .i64 (M : Int)) := by rw [hb.cell (Nat.lt_succ_self D)]; exact H.out.2.2.2.1
    have H1 := Lib.hid hb
    clear hb
    have hLM := H.out.2.2.2.2.2.2.2.2.2.2.1.len_le
    rw [← H.out.2.2.2.2.2.2.2.2.2.2.2.1] at hLM
    go_wp2_with (first | (go_at_call 90; refine (H.out.2.2.2.2.1 _ H1.out).mono ?_; rw [Hbad.out.1]; rintro e w' ⟨rfl, hw⟩; replace hw := hw.symm; subst hw) | (at_make; go_loud (refine mk1 rfl _ _ 28 23 rfl i29 (.slice none 0 0) 24 Tryz.underlying28 I29.out.1 I29.out.2.1 I29.out.2.2.1 I29.out.2.2.2 rfl (by omega) w1.heap.size L rfl rfl (by omega) (Nat.le_refl _) ?_; intro w2 hd hg _; have hb9 : Below w1.heap.size w1 w2 := (Below.refl _ _).grown hg (Nat.le_refl _) (fun k hk => by cases hk); have H2 := Lib.hid (And.intro hd hb9); clear hd hg hb9)))
    go_loopw [37] (fun i wr => ∃ (k : Nat) (cs : List Value), k ≤ L ∧ i = .int .i64 k ∧ Own wr w1.heap.size (.slice (some ⟨w1.heap.size, 0, none⟩) L L) 23 (cs ++ List.replicate (L - k) (.slice none 0 0)) ∧ OwnRows wr w1.heap.size 3 cs (l.take k) ∧ cs.length = k ∧ Below w1.heap.size w1 wr) (fun i _ => L - (intOf i).toNat)
    case atStart => exact ⟨0, [], by omega, rfl, by simpa using H2.out.1, OwnRows.nil _ _ _, rfl, H2.out.2⟩
    case round =>
      obtain ⟨k, cs, hk, rfl, ho, hrows, hcs, hb⟩ := hrel
      have hl1 : Rows w1 al l := H.out.2.2.2.2.2.2.2.1.below (by rw [H.out.2.2.2.2.2.2.1]; exact H1.out)
      have hlr : Rows wr al l := hl1.below hb
      have hLl := H.out.2.2.2.2.2.2.2.2.2.2.2.1
      have hgood := H.out.2.2.2.2.2.2.2.2.2.2.1
      by_cases hlt : k < L
      · have hkl : k < l.length := by omega
        obtain ⟨g, o, b, c, rfl, hg, hc, hints⟩ := hlr.at_ (k := k) hkl
        obtain ⟨x, hx⟩ : ∃ x, l[k]?.getD [] = x := ⟨_, rfl⟩
        rw [hx] at hc hints
        have hxm : l[k]? = some x := by rw [List.getElem?_eq_getElem hkl] at hx ⊢; simp at hx; rw [hx]
        have hxl : x.length ≤ M := hgood.cell_le (List.mem_of_getElem? hxm)
        have hcl := clone_calls b c x wr hints (by omega)
        obtain ⟨q, hq⟩ : ∃ q, x.length = q := ⟨_, rfl⟩
        rw [hq] at hc hcl
        have hw1r : w1.heap.size ≤ wr.heap.size := hb.size
        have Hr := Lib.hid (And.intro ho (And.intro hrows (And.intro hcs (And.intro hb (And.intro hxm (And.intro hcl hw1r))))))
        have Hxl := Lib.hid hxl
        clear ho hrows hcs hb hxm hcl hx hq hints hl1 hlr hLl hgood hxl hg hw1r
        go_wp2_with (go_at_call 65; refine Hr.out.2.2.2.2.2.1.mono ?_; rintro e w3 ⟨u, rfl, hou, hb3⟩; obtain ⟨a9, c9, rfl, -⟩ := hou.row (by rw [ints_len]; unfold maxLen; have := Hxl.out; omega); have ho3 := Hr.out.1.kept (grown_below hb3 (some wr.heap.size)) (own1_ne (K := wr.heap.size) (by obtain ⟨g9, e9, _, h9, _⟩ := Hr.out.1.at_form (by omega); cases e9; exact h9) (fun g hg => by cases hg; exact Nat.le_refl _)); have hf3 := ho3.frozen k; have hc3 := ho3.cell k (by have := Hr.out.2.2.1; simp; omega); rw [List.getElem?_append_right (by rw [Hr.out.2.2.1]; exact Nat.le_refl _), Hr.out.2.2.1, Nat.sub_self, List.getElem?_replicate, if_pos (by omega)] at hc3; have H3 := Lib.hid (And.intro hou (And.intro hb3 ho3)); clear hou hb3 ho3)
        have hown : Own w3 wr.heap.size (.slice a9 (ints x).length c9) 3 (ints x) := H3.out.1
        have hput := H3.out.2.2.put k (.slice a9 (ints x).length c9)
        rw [rep_set Hr.out.2.2.1 hlt] at hput
        have hg4 := grown_put (w := w3) (g := w1.heap.size) k (.slice a9 (ints x).length c9)
        have hrows3 := Hr.out.2.1.kept (grown_below H3.out.2.1 none) (fun u xs _ => by cases u.ownBlock <;> simp)
        refine ⟨⟨k + 1, cs ++ [.slice a9 (ints x).length c9], by omega, by go_num, hput, ?_, by simp [Hr.out.2.2.1], ?_⟩, by simp [intOf]; omega⟩
        · have h1 := (hrows3.app (OwnRows.one (hown.mono Hr.out.2.2.2.2.2.2))).kept hg4 (fun u xs h => h.ne_type H3.out.2.2 (by decide))
          rw [List.take_add_one, Hr.out.2.2.2.2.1]
          exact h1
        · exact (Hr.out.2.2.2.1.trans (H3.out.2.1.mono Hr.out.2.2.2.2.2.2)).setCell (Nat.le_refl _) _
      · obtain rfl : k = L := by omega
        have hrw := hrows.rows (e' := 23) (v := .slice (some ⟨w1.heap.size, 0, none⟩) k k) (by simpa using ho) (by rw [hcs]; unfold maxLen; omega) (fun xs hx => by
          have := hgood.cell_le (List.mem_of_mem_take hx)
          unfold maxLen; omega)
        rw [List.take_of_length_le (by omega)] at hrw
        obtain ⟨a9, c9, e9, hrw⟩ := hrw
        cases e9
        have hbD : Below (D + 1) w1 wr := hb.mono (by have := H1.out.size; rw [H.out.2.2.2.2.2.2.1] at this; exact this)
        have Hr := Lib.hid (And.intro hrw hbD)
        clear ho hrows hcs hb hl1 hlr hLl hgood hrw hbD
        have hbxr : wr.cell? ⟨D, 0, none⟩ = some (.int .i64 (M : Int)) := by rw [Hr.out.2.cell (Nat.lt_succ_self D)]; exact hbx1
        go_wp2
        go_loopg [9] (M + 1) (fun f v wr => ∃ (a : Option Addr) (c : Nat) (cur : List (List Int)) (f' : Nat), v = .slice a cur.length c ∧ Rows wr a cur ∧ Plain.Good M cur ∧ Below (D + 1) w1 wr ∧ f = f' + 1 ∧ M ≤ f' + cur.length ∧ refineL M l m = refL M m f cur)
        case atStart => exact ⟨_, _, l, M, rfl, Hr.out.1, H.out.2.2.2.2.2.2.2.2.2.2.1, Hr.out.2, rfl, by omega, rfl⟩
        case round =>
          obtain ⟨a, c, cur, f', rfl, hrows, hgood, hbl, rfl, hf, he⟩ := hrel
          obtain ⟨wo, rfl⟩ : ∃ wo, wo = wr := ⟨_, rfl⟩
          have hbxr : wo.cell? ⟨D, 0, none⟩ = some (.int .i64 (M : Int)) := by rw [hbl.cell (Nat.lt_succ_self D)]; exact hbx1
          have hDE : D + 1 ≤ wo.heap.size := by
            have h1 := H1.out.size
            rw [H.out.2.2.2.2.2.2.1] at h1
            exact Nat.le_trans h1 hbl.size
          have hlab := labels_calls M a c cur wo hrows (by omega) hgood.inr
          have hmr : Rows wo am m := H.out.2.2.2.2.2.2.2.2.1.below (by rw [H.out.2.2.2.2.2.2.1]; exact H1.out.trans hbl)
          have hlablen := labelsL_len M cur
          have hlabb : ∀ x ∈ labelsL M cur, 0 ≤ x ∧ x ≤ 1000000 := by
            intro x hx
            obtain ⟨q, hq⟩ := List.mem_iff_getElem?.1 hx
            have hqM : q < M := by have := (List.getElem?_eq_some_iff.1 hq).1; omega
            obtain ⟨k, c9, hk, _, _, hl9⟩ := hgood.cell hqM
            rw [hl9] at hq
            cases hq
            have := hgood.len_le
            omega
          obtain ⟨lab, hlabe⟩ : ∃ x, labelsL M cur = x := ⟨_, rfl⟩
          rw [hlabe] at hlab hlablen hlabb
          obtain ⟨C, hC⟩ : ∃ C, C = cur.length := ⟨_, rfl⟩
          rw [← hC] at hlab ⊢
          have Hx := Lib.hid (And.intro hlab (And.intro hmr (And.intro hlablen (And.intro hlabb (And.intro hlabe (And.intro hC (And.intro trivial (And.intro hbl (And.intro hDE (And.intro hgood (And.intro hf he)))))))))))
          clear hlab hmr hlablen hlabb hlabe hC hbl hDE hgood hf he hrows
          have hst := fun (W : World) (A : Addr) => run_store Tryz.prog W A (.func (.func 93) #[] #[]) .plain rfl
          go_wp2_with (first | (go_at_call 92; refine Hx.out.1.mono ?_; rintro e w3 ⟨u, rfl, hou, hb3⟩; obtain ⟨al, cl, rfl, -⟩ := hou.row (by rw [ints_len, Hx.out.2.2.1]; unfold maxLen; omega); rw [ints_len, Hx.out.2.2.1] at hou ⊢; have hbx3 : w3.cell? ⟨D, 0, none⟩ = some (.int .i64 (M : Int)) := (by rw [hb3.cell (Nat.lt_of_lt_of_le (Nat.lt_succ_self D) Hx.out.2.2.2.2.2.2.2.2.1)]; exact hbxr); have hD3 : D < w3.heap.size := Nat.lt_of_lt_of_le (Nat.lt_of_lt_of_le (Nat.lt_succ_self D) Hx.out.2.2.2.2.2.2.2.2.1) hb3.size; have hE3 : wo.heap.size ≤ w3.heap.size := hb3.size; have H3 := Lib.hid (And.intro hou hb3); clear hou hb3) | (at_make; refine mk1 rfl _ _ 119 122 rfl i62 (.slice none 0 0) 24 Tryz.underlying119 I62.out.1 I62.out.2.1 I62.out.2.2.1 I62.out.2.2.2 rfl (by omega) wo.heap.size M rfl rfl (by omega) (by simp; omega) ?_; intro w5 hd hg hs5; have hs3 : (w3.alloc (.cells #[Value.slice al M cl] 23)).heap.size = w3.heap.size + 1 := (by simp); rw [hs3] at hd hs5 ⊢; obtain ⟨hk0, hkey0⟩ := KeyS.begin_ m H3.out.1 H3.out.2 hE3 hd hg; have hbx5 : w5.cell? ⟨D, 0, none⟩ = some (.int .i64 (M : Int)) := (by rw [hg.cell_far _ (by simp; omega) (by simp)]; simpa [World.cell?_alloc_past, hD3] using hbx3); have hD5 : D < w5.heap.size := (by omega); have H5 := Lib.hid (And.intro hk0 (And.intro hkey0 hs5)); clear hd hg hk0 hkey0 hs3 hs5))
          clear hst
          go_loopw [55] (fun i wq => ∃ (v : Nat) (cs : List Value) (ks : List (List T3)) (K : Nat), v ≤ M ∧ i = .int .i64 v ∧ KeyS wo wq wo.heap.size M w3.heap.size w5.heap.size (w5.heap.size + 1) (w3.heap.size + 1) al cl lab m v cs ks K ∧ Own wq wo.heap.size (.slice (some ⟨w3.heap.size + 1, 0, none⟩) M M) 122 (cs ++ List.replicate (M - v) (.slice none 0 0)) ∧ K ≤ wq.heap.size) (fun i _ => M - (intOf i).toNat)
          case atStart => exact ⟨0, [], [], _, by omega, rfl, H5.out.1, by simpa using H5.out.2.1, by simp⟩
          case round =>
            obtain ⟨v, ds, ks, K, hv, rfl, hks, hko, hK⟩ := hrel
            obtain ⟨wq, rfl⟩ : ∃ wo, wo = wr := ⟨_, rfl⟩
            have hDE := Hx.out.2.2.2.2.2.2.2.2.1
            have hbxq : wq.cell? ⟨D, 0, none⟩ = some (.int .i64 (M : Int)) := by rw [hks.bel.cell (Nat.lt_of_lt_of_le (Nat.lt_succ_self D) hDE)]; exact hbxr
            have hEq : wo.heap.size ≤ wq.heap.size := hks.bel.size
            by_cases hvM : v < M
            · have Hq := Lib.hid (And.intro hks (And.intro hko (And.intro hK (And.intro hDE hEq))))
              clear hks hko hK hDE hEq
              go_wp2
              go_loopw [59] (fun i wi => ∃ (u : Nat) (x : Value), u ≤ M ∧ i = .int .i64 u ∧ KeyS wo wi wo.heap.size M w3.heap.size w5.heap.size (w5.heap.size + 1) (w3.heap.size + 1) al cl lab m v ds ks wq.heap.size ∧ Own wi wo.heap.size (.slice (some ⟨w3.heap.size + 1, 0, none⟩) M M) 122 (ds ++ x :: List.replicate (M - (v + 1)) (.slice none 0 0)) ∧ Own3 wi wq.heap.size x (triTo lab m v u) ∧ wq.heap.size ≤ wi.heap.size) (fun i _ => M - (intOf i).toNat)
              case atStart =>
                refine ⟨0, .slice none 0 0, by omega, rfl, Hq.out.1.up Hq.out.2.2.1, ?_, Own3.nil _ _, Nat.le_refl _⟩
                have := Hq.out.2.1
                rw [show M - v = M - (v + 1) + 1 by omega, List.replicate_succ] at this
                exact this
              case round =>
                obtain ⟨u, x, hu, rfl, hks, hko, hx, hKi⟩ := hrel
                obtain ⟨wi, rfl⟩ : ∃ wo, wo = wr := ⟨_, rfl⟩
                by_cases huM : u < M
                · have hM0 : 0 < M := by omega
                  have hgl3 := H3.out.1
                  obtain ⟨gl, rfl, -, hgl, -⟩ := hgl3.at_form hM0
                  have hcl : wi.cell? ⟨gl, u, none⟩ = some (.int .i64 (lab[u]?.getD 0)) := by
                    rw [hks.xl.cell u (by rw [ints_len, Hx.out.2.2.1]; exact huM)]
                    exact ints_get (by rw [Hx.out.2.2.1]; exact huM)
                  have hc2 : wi.cell? ⟨w3.heap.size, 0, none⟩ = some (.slice (some ⟨gl, 0, none⟩) M cl) := by rw [hks.x2.cell 0 (by simp)]; rfl
                  have hc3 : wi.cell? ⟨w5.heap.size, 0, none⟩ = some (.slice (some ⟨w3.heap.size + 1, 0, none⟩) M M) := by rw [hks.x3.cell 0 (by simp)]; rfl
                  have hgk : w3.heap.size + 1 < wq.heap.size := by
                    obtain ⟨g9, e9, _, h9, _⟩ := Hq.out.2.1.at_form hM0
                    cases e9; exact h9
                  have hvl : v < (ds ++ x :: List.replicate (M - (v + 1)) (Value.slice none 0 0)).length := by simp [hks.lc]
                  have hxg : (ds ++ x :: List.replicate (M - (v + 1)) (Value.slice none 0 0))[v]? = some x := by
                    rw [List.getElem?_append_right (by rw [hks.lc]; exact Nat.le_refl _), hks.lc, Nat.sub_self]; rfl
                  have hck : wi.cell? ⟨w3.heap.size + 1, v, none⟩ = some x := by rw [hko.cell v hvl, hxg]
                  obtain ⟨ax, cx, rfl⟩ := hx.any_form
                  rw [triTo_len] at hxg hck hx hko hvl
                  have hmm := Hbad.out.2
                  have hmr := Hx.out.2.1
                  obtain ⟨gm, om, bv, cv, rfl, hgm, hcv, hiv⟩ := hmr.at_ (k := v) (by rw [hmm.1]; exact hvM)
                  obtain ⟨gm', om', bu, cu, eu, -, hcu, hiu⟩ := hmr.at_ (k := u) (by rw [hmm.1]; exact huM)
                  cases eu
                  have hlv := hmm.row hvM
                  have hlu := hmm.row huM
                  obtain ⟨gv, ov, rfl, hgv, hvu⟩ := hiv.at_ (k := u) (by rw [hlv]; exact huM)
                  obtain ⟨gu, ou, rfl, hgu, huv⟩ := hiu.at_ (k := v) (by rw [hlu]; exact hvM)
                  rw [hlv] at hcv
                  rw [hlu] at hcu
                  have hb := hks.bel
                  have hcv' := (hb.cell (p := ⟨gm, om + v, none⟩) hgm).trans hcv
                  have hcu' := (hb.cell (p := ⟨gm, om + u, none⟩) hgm).trans hcu
                  have hvu' := (hb.cell (p := ⟨gv, ov + u, none⟩) hgv).trans hvu
                  have huv' := (hb.cell (p := ⟨gu, ou + v, none⟩) hgu).trans huv
                  obtain ⟨p1, hp1⟩ : ∃ z, lab[u]?.getD 0 = z := ⟨_, rfl⟩
                  obtain ⟨p2, hp2⟩ : ∃ z, (m[v]?.getD [])[u]?.getD 0 = z := ⟨_, rfl⟩
                  obtain ⟨p3, hp3⟩ : ∃ z, (m[u]?.getD [])[v]?.getD 0 = z := ⟨_, rfl⟩
                  rw [hp1] at hcl
                  rw [hp2] at hvu'
                  rw [hp3] at huv'
                  have htri : tri lab m v u = (p1, p2, p3) := by unfold tri mat; rw [hp1, hp2, hp3]
                  have hne : ∀ b, b < wq.heap.size → some b ≠ (Value.slice ax u cx).ownBlock := fun b hb9 e => by
                    rcases hx.blk with e2 | ⟨g9, _, e2, hB9, _⟩
                    · rw [← e] at e2; cases e2
                    · rw [← e] at e2; cases e2; omega
                  have hxo : wi.ownsRow wq.heap.size 120 3 (.slice ax u cx) u (ints (flat (triTo lab m v u))) := by
                    have := hx
                    unfold Own3 at this
                    rw [triTo_len] at this
                    exact this
                  have hwo3 : wo.heap.size ≤ w3.heap.size := H3.out.2.size
                  have h5 : w3.heap.size + 1 < w5.heap.size := by have := H5.out.2.2; omega
                  have hk4 := hks.k4
                  have hgki : w3.heap.size + 1 < wi.heap.size := by omega
                  have hnew := World.new_ne wi _ hck
                  have hvM' : (v : Int) < (M : Int) := by omega
                  have huM' : (u : Int) < (M : Int) := by omega
                  have Hi := Lib.hid (And.intro hks (And.intro hko (And.intro hx (And.intro hxo (And.intro hne (And.intro htri (And.intro hvl hxg)))))))
                  clear hks hko hx hxo hne htri hvl hxg hcv hcu hvu huv hp1 hp2 hp3 hlv hlu hb hmm hmr hiv hiu hgl3
                  go_wp2
                  refine wp_region_noPanic ?_
                  refine wp_region_held_drew (S := (fun w' => w'.cell? ⟨w5.heap.size, 0, none⟩ = some (.slice (some ⟨w3.heap.size + 1, 0, none⟩) M M) ∧ w'.cell? ⟨w3.heap.size, 0, none⟩ = some (.slice (some ⟨gl, 0, none⟩) M cl) ∧ w'.cell? ⟨gl, u, none⟩ = some (.int .i64 p1) ∧ w'.cell? ⟨gm, om + v, none⟩ = some (.slice (some ⟨gv, ov, none⟩) M cv) ∧ w'.cell? ⟨gv, ov + u, none⟩ = some (.int .i64 p2) ∧ w'.cell? ⟨gm, om + u, none⟩ = some (.slice (some ⟨gu, ou, none⟩) M cu) ∧ w'.cell? ⟨gu, ou + v, none⟩ = some (.int .i64 p3))) (by kernel_rfl) ?_ (fun hHeld => ?_)
                  · exact ⟨hc3, hc2, hcl, hcv', hvu', hcu', huv'⟩
                  refine wpAnyH_take (i := 0) (v := ?val0) rfl (by kernel_rfl) (by kernel_rfl) (by kernel_rfl) (fun _ _ _ h => h) (Or.inl ⟨by rfl, ?hy0⟩) (by assumption) ?rest0
                  case hy0 => (intro w hSw; (try dsimp only at hSw); go_simp; try with_reducible rfl)
                  (try simp only [Act.put, List.setIfInBounds_toArray, List.set_cons_zero, List.set_cons_succ])
                  refine wpAnyH_take (i := 1) (v := ?val1) rfl (by kernel_rfl) (by kernel_rfl) (by kernel_rfl) (fun _ _ _ h => h) (Or.inl ⟨by rfl, ?hy1⟩) (by assumption) ?rest1
                  case hy1 => (intro w hSw; (try dsimp only at hSw); go_simp; try with_reducible rfl)
                  (try simp only [Act.put, List.setIfInBounds_toArray, List.set_cons_zero, List.set_cons_succ])
                  refine wpAnyH_take (i := 2) (v := ?val2) rfl (by kernel_rfl) (by kernel_rfl) (by kernel_rfl) (fun _ _ _ h => h) (Or.inl ⟨by rfl, ?hy2⟩) (by assumption) ?rest2
                  case hy2 => (intro w hSw; (try dsimp only at hSw); go_simp; try with_reducible rfl)
                  (try simp only [Act.put, List.setIfInBounds_toArray, List.set_cons_zero, List.set_cons_succ])
                  refine wpAnyH_take (i := 3) (v := ?val3) rfl (by kernel_rfl) (by kernel_rfl) (by kernel_rfl) (fun _ _ _ h => h) (Or.inl ⟨by rfl, ?hy3⟩) (by assumption) ?rest3
                  case hy3 => (intro w hSw; (try dsimp only at hSw); go_simp; try with_reducible rfl)
                  (try simp only [Act.put, List.setIfInBounds_toArray, List.set_cons_zero, List.set_cons_succ])
                  refine wpAnyH_take (i := 4) (v := ?val4) rfl (by kernel_rfl) (by kernel_rfl) (by kernel_rfl) (fun _ _ _ h => h) (Or.inl ⟨by rfl, ?hy4⟩) (by assumption) ?rest4
                  case hy4 => (intro w hSw; (try dsimp only at hSw); go_simp; try with_reducible rfl)
                  (try simp only [Act.put, List.setIfInBounds_toArray, List.set_cons_zero, List.set_cons_succ])
                  refine wpAnyH_take (i := 6) (v := ?val6) rfl (by kernel_rfl) (by kernel_rfl) (by kernel_rfl) (fun _ _ _ h => h) (Or.inl ⟨by rfl, ?hy6⟩) (by assumption) ?rest6
                  case hy6 => (intro w hSw; (try dsimp only at hSw); go_simp; try with_reducible rfl)
                  (try simp only [Act.put, List.setIfInBounds_toArray, List.set_cons_zero, List.set_cons_succ])
                  refine wpAnyH_take (i := 7) (v := ?val7) rfl (by kernel_rfl) (by kernel_rfl) (by kernel_rfl) (fun _ _ _ h => h) (Or.inl ⟨by rfl, ?hy7⟩) (by assumption) ?rest7
                  case hy7 => (intro w hSw; (try dsimp only at hSw); go_simp; try with_reducible rfl)
                  (try simp only [Act.put, List.setIfInBounds_toArray, List.set_cons_zero, List.set_cons_succ])
                  refine wpAnyH_take (i := 8) (v := ?val8) rfl (by kernel_rfl) (by kernel_rfl) (by kernel_rfl) (fun _ _ _ h => h) (Or.inl ⟨by rfl, ?hy8⟩) (by assumption) ?rest8
                  case hy8 => (intro w hSw; (try dsimp only at hSw); go_simp; try with_reducible rfl)
                  (try simp only [Act.put, List.setIfInBounds_toArray, List.set_cons_zero, List.set_cons_succ])
                  refine wpAnyH_take (i := 9) (v := ?val9) rfl (by kernel_rfl) (by kernel_rfl) (by kernel_rfl) (fun _ _ _ h => h) (Or.inl ⟨by rfl, ?hy9⟩) (by assumption) ?rest9
                  case hy9 => (intro w hSw; (try dsimp only at hSw); go_simp; try with_reducible rfl)
                  (try simp only [Act.put, List.setIfInBounds_toArray, List.set_cons_zero, List.set_cons_succ])
                  refine wpAnyH_take (i := 10) (v := ?val10) rfl (by kernel_rfl) (by kernel_rfl) (by kernel_rfl) (fun _ _ _ h => h) (Or.inl ⟨by rfl, ?hy10⟩) (by assumption) ?rest10
                  case hy10 => (intro w hSw; (try dsimp only at hSw); go_simp; try with_reducible rfl)
                  (try simp only [Act.put, List.setIfInBounds_toArray, List.set_cons_zero, List.set_cons_succ])
                  refine wpAnyH_take (i := 11) (v := ?val11) rfl (by kernel_rfl) (by kernel_rfl) (by kernel_rfl) (fun _ _ _ h => h) (Or.inl ⟨by rfl, ?hy11⟩) (by assumption) ?rest11
                  case hy11 => (intro w hSw; (try dsimp only at hSw); go_simp; try with_reducible rfl)
                  (try simp only [Act.put, List.setIfInBounds_toArray, List.set_cons_zero, List.set_cons_succ])
                  refine wpAnyH_take (i := 12) (v := ?val12) rfl (by kernel_rfl) (by kernel_rfl) (by kernel_rfl) (fun _ _ _ h => h) (Or.inl ⟨by rfl, ?hy12⟩) (by assumption) ?rest12
                  case hy12 => (intro w hSw; (try dsimp only at hSw); go_simp; try with_reducible rfl)
                  (try simp only [Act.put, List.setIfInBounds_toArray, List.set_cons_zero, List.set_cons_succ])
                  refine wpAnyH_take (i := 13) (v := ?val13) rfl (by kernel_rfl) (by kernel_rfl) (by kernel_rfl) (fun _ _ _ h => h) (Or.inl ⟨by rfl, ?hy13⟩) (by assumption) ?rest13
                  case hy13 => (intro w hSw; (try dsimp only at hSw); go_simp; try with_reducible rfl)
                  (try simp only [Act.put, List.setIfInBounds_toArray, List.set_cons_zero, List.set_cons_succ])
                  refine wpAnyH_take (i := 14) (v := ?val14) rfl (by kernel_rfl) (by kernel_rfl) (by kernel_rfl) (fun _ _ _ h => h) (Or.inl ⟨by rfl, ?hy14⟩) (by assumption) ?rest14
                  case hy14 => (intro w hSw; (try dsimp only at hSw); go_simp; try with_reducible rfl)
                  (try simp only [Act.put, List.setIfInBounds_toArray, List.set_cons_zero, List.set_cons_succ])
                  refine wpAnyH_take (i := 15) (v := ?val15) rfl (by kernel_rfl) (by kernel_rfl) (by kernel_rfl) (fun _ _ _ h => h) (Or.inl ⟨by rfl, ?hy15⟩) (by assumption) ?rest15
                  case hy15 => (intro w hSw; (try dsimp only at hSw); go_simp; try with_reducible rfl)
                  (try simp only [Act.put, List.setIfInBounds_toArray, List.set_cons_zero, List.set_cons_succ])
                  refine wpAnyH_take (i := 16) (v := ?val16) rfl (by kernel_rfl) (by kernel_rfl) (by kernel_rfl) (fun _ _ _ h => h) (Or.inl ⟨by rfl, ?hy16⟩) (by assumption) ?rest16
                  case hy16 => (intro w hSw; (try dsimp only at hSw); go_simp; try with_reducible rfl)
                  (try simp only [Act.put, List.setIfInBounds_toArray, List.set_cons_zero, List.set_cons_succ])
                  refine wpAnyH_take (i := 17) (v := ?val17) rfl (by kernel_rfl) (by kernel_rfl) (by kernel_rfl) (fun _ _ _ h => h) (Or.inl ⟨by rfl, ?hy17⟩) (by assumption) ?rest17
                  case hy17 => (intro w hSw; (try dsimp only at hSw); go_simp; try with_reducible rfl)
                  (try simp only [Act.put, List.setIfInBounds_toArray, List.set_cons_zero, List.set_cons_succ])
                  refine wpAnyH_take (i := 18) (v := ?val18) rfl (by kernel_rfl) (by kernel_rfl) (by kernel_rfl) (fun _ _ _ h => h) (Or.inl ⟨by rfl, ?hy18⟩) (by assumption) ?rest18
                  case hy18 => (intro w hSw; (try dsimp only at hSw); go_simp; try with_reducible rfl)
                  (try simp only [Act.put, List.setIfInBounds_toArray, List.set_cons_zero, List.set_cons_succ])
                  refine wpAnyH_take (i := 19) (v := ?val19) rfl (by kernel_rfl) (by kernel_rfl) (by kernel_rfl) (fun _ _ _ h => h) (Or.inl ⟨by rfl, ?hy19⟩) (by assumption) ?rest19
                  case hy19 => (intro w hSw; (try dsimp only at hSw); go_simp; try with_reducible rfl)
                  (try simp only [Act.put, List.setIfInBounds_toArray, List.set_cons_zero, List.set_cons_succ])
                  refine wpAnyH_take (i := 20) (v := ?val20) rfl (by kernel_rfl) (by kernel_rfl) (by kernel_rfl) (fun _ _ _ h => h) (Or.inl ⟨by rfl, ?hy20⟩) (by assumption) ?rest20
                  case hy20 => (intro w hSw; (try dsimp only at hSw); go_simp; try with_reducible rfl)
                  (try simp only [Act.put, List.setIfInBounds_toArray, List.set_cons_zero, List.set_cons_succ])
                  refine wpAnyH_take (i := 21) (v := ?val21) rfl (by kernel_rfl) (by kernel_rfl) (by kernel_rfl) (fun _ _ _ h => h) (Or.inl ⟨by rfl, ?hy21⟩) (by assumption) ?rest21
                  case hy21 => (intro w hSw; (try dsimp only at hSw); go_simp; try with_reducible rfl)
                  (try simp only [Act.put, List.setIfInBounds_toArray, List.set_cons_zero, List.set_cons_succ])
                  refine wpAnyH_take (i := 22) (v := ?val22) rfl (by kernel_rfl) (by kernel_rfl) (by kernel_rfl) (fun _ _ _ h => h) (Or.inl ⟨by rfl, ?hy22⟩) (by assumption) ?rest22
                  case hy22 => (intro w hSw; (try dsimp only at hSw); go_simp; try with_reducible rfl)
                  (try simp only [Act.put, List.setIfInBounds_toArray, List.set_cons_zero, List.set_cons_succ])
                  refine wpAnyH_take (i := 23) (v := ?val23) rfl (by kernel_rfl) (by kernel_rfl) (by kernel_rfl) (fun _ _ _ h => h) (Or.inl ⟨by rfl, ?hy23⟩) (by assumption) ?rest23
                  case hy23 => (intro w hSw; (try dsimp only at hSw); go_simp; try with_reducible rfl)
                  (try simp only [Act.put, List.setIfInBounds_toArray, List.set_cons_zero, List.set_cons_succ])
                  refine wpAnyH_take (i := 24) (v := ?val24) rfl (by kernel_rfl) (by kernel_rfl) (by kernel_rfl) (fun _ _ _ h => h) (Or.inl ⟨by rfl, ?hy24⟩) (by assumption) ?rest24
                  case hy24 => (intro w hSw; (try dsimp only at hSw); go_simp; try with_reducible rfl)
                  (try simp only [Act.put, List.setIfInBounds_toArray, List.set_cons_zero, List.set_cons_succ])
                  refine wpAnyH_ready (rs := [5, 25]) (by kernel_rfl) (by simp) ?_
                  refine AllReadyH.cons rfl (fun K hK => ?wayA) (AllReadyH.cons rfl (fun K hK => ?wayB) AllReadyH.nil)
                  case' wayA =>
                    go_simp
                    refine hK.out _ _ (by (try dsimp only); (first | assumption | (go_split_ands; refine ⟨?_, ?_, ?_, ?_, ?_, ?_, ?_⟩ <;> exact (hgrow.cell_far _ (by simp; omega) (Hi.out.2.2.2.2.1 _ (by dsimp only; omega))).trans (by assumption)) | (go_split_ands; refine ⟨?_, ?_, ?_, ?_, ?_, ?_, ?_⟩ <;> exact (cell_put_ne (by dsimp only; omega)).trans (by assumption)) | go_keep)) (fun hHeld => ?_)
                    clear hK K
                    (try simp only [Act.put, List.setIfInBounds_toArray, List.set_cons_zero, List.set_cons_succ])
                    refine wpAnyH_ready (rs := [25]) (by kernel_rfl) (by simp) ?_
                    refine AllReadyH.cons rfl (fun K hK => ?_) AllReadyH.nil
                    go_simp
                    refine hK.out _ _ (by (try dsimp only); (first | assumption | (go_split_ands; refine ⟨?_, ?_, ?_, ?_, ?_, ?_, ?_⟩ <;> exact (hgrow.cell_far _ (by simp; omega) (Hi.out.2.2.2.2.1 _ (by dsimp only; omega))).trans (by assumption)) | (go_split_ands; refine ⟨?_, ?_, ?_, ?_, ?_, ?_, ?_⟩ <;> exact (cell_put_ne (by dsimp only; omega)).trans (by assumption)) | go_keep)) (fun hHeld => ?_)
                    clear hK K
                    (try simp only [Act.put, List.setIfInBounds_toArray, List.set_cons_zero, List.set_cons_succ])
                  case' wayB =>
                    go_simp
                    refine hK.out _ _ (by (try dsimp only); (first | assumption | (go_split_ands; refine ⟨?_, ?_, ?_, ?_, ?_, ?_, ?_⟩ <;> exact (hgrow.cell_far _ (by simp; omega) (Hi.out.2.2.2.2.1 _ (by dsimp only; omega))).trans (by assumption)) | (go_split_ands; refine ⟨?_, ?_, ?_, ?_, ?_, ?_, ?_⟩ <;> exact (cell_put_ne (by dsimp only; omega)).trans (by assumption)) | go_keep)) (fun hHeld => ?_)
                    clear hK K
                    (try simp only [Act.put, List.setIfInBounds_toArray, List.set_cons_zero, List.set_cons_succ])
                    refine wpAnyH_ready (rs := [5]) (by kernel_rfl) (by simp) ?_
                    refine AllReadyH.cons rfl (fun K hK => ?_) AllReadyH.nil
                    go_simp
                    refine hK.out _ _ (by (try dsimp only); (first | assumption | (go_split_ands; refine ⟨?_, ?_, ?_, ?_, ?_, ?_, ?_⟩ <;> exact (hgrow.cell_far _ (by simp; omega) (Hi.out.2.2.2.2.1 _ (by dsimp only; omega))).trans (by assumption)) | (go_split_ands; refine ⟨?_, ?_, ?_, ?_, ?_, ?_, ?_⟩ <;> exact (cell_put_ne (by dsimp only; omega)).trans (by assumption)) | go_keep)) (fun hHeld => ?_)
                    clear hK K
                    (try simp only [Act.put, List.setIfInBounds_toArray, List.set_cons_zero, List.set_cons_succ])
                  all_goals
                    refine wpAnyH_ready (rs := [26]) (by kernel_rfl) (by simp) ?_
                    refine AllReadyH.cons rfl (fun K hK => ?_) AllReadyH.nil
                    (refine step_append_lies _ (by rfl) _ _ _ (by rfl) wq.heap.size 120 i59 _ 3 24 Tryz.underlying122 I59.out.1 I59.out.2.1 I59.out.2.2.1 I59.out.2.2.2 rfl (by omega) (.slice ax u cx) u (ints (flat (triTo lab m v u))) (by rfl) (World.ownsRow.alloc (w := wi.drewN 1) Hi.out.2.2.2.1 _) ⟨wi.heap.size, 0, none⟩ 1 1 [.int .i64 p1, .int .i64 p2, .int .i64 p3] (by rfl) (by rfl) (World.news_of_block (cs := #[.int .i64 p1, .int .i64 p2, .int .i64 p3]) (t := 120) (fr := (0, 0)) (heap_alloc_new _ _)) (by simp [Value.oneCell']) (by omega) (by unfold maxLen; omega) (by omega) (by simp; omega) (wi.heap.size + 1) (by simp) ?_; intro g cap w6 hown1 hgrow hat hlt; have hko6 := Own.kept ((Hi.out.2.1.drewN 1).alloc _) hgrow (Hi.out.2.1.ne3 Hi.out.2.2.1 (by decide)); have hck6 := hko6.cell v Hi.out.2.2.2.2.2.2.1; rw [Hi.out.2.2.2.2.2.2.2] at hck6; have hfz6 := hko6.frozen v; have hwi6 : wi.heap.size ≤ w6.heap.size := (by have := hgrow.size; simp at this; omega); have hks6 := KeyS.kept (KeyS.kept (Hi.out.1.drewN 1) (grown_alloc _ (.cells #[.int .i64 p1, .int .i64 p2, .int .i64 p3] 120) none) (fun g hg => by cases hg) (by have := hwo3; simp; omega)) hgrow (fun g hg => by rcases Hi.out.2.2.1.blk with e | ⟨g9, _, e, hB9, _⟩ <;> rw [e] at hg <;> cases hg; exact hB9) (by have := hwo3; simp; omega); have H6 := Lib.hid (And.intro hown1 (And.intro hko6 hks6)); clear hown1 hko6 hks6 hat hlt)
                    refine hK.out _ _ (by (try dsimp only); (first | assumption | (go_split_ands; refine ⟨?_, ?_, ?_, ?_, ?_, ?_, ?_⟩ <;> exact (hgrow.cell_far _ (by simp; omega) (Hi.out.2.2.2.2.1 _ (by dsimp only; omega))).trans (by assumption)) | (go_split_ands; refine ⟨?_, ?_, ?_, ?_, ?_, ?_, ?_⟩ <;> exact (cell_put_ne (by dsimp only; omega)).trans (by assumption)) | go_keep)) (fun hHeld => ?_)
                    clear hK K
                    (try simp only [Act.put, List.setIfInBounds_toArray, List.set_cons_zero, List.set_cons_succ])
                  all_goals
                    refine wpAnyH_take (i := 27) (v := ?_) rfl (by kernel_rfl) (by kernel_rfl) (by kernel_rfl) (fun _ _ _ h => h) (Or.inl ⟨by rfl, ?_⟩) (by assumption) ?_
                    rotate_left
                    · (intro w hSw; (try dsimp only at hSw); go_simp; try with_reducible rfl)
                    (try simp only [Act.put, List.setIfInBounds_toArray, List.set_cons_zero, List.set_cons_succ])
                    refine wpAnyH_ready (rs := [28]) (by kernel_rfl) (by simp) ?_
                    refine AllReadyH.cons rfl (fun K hK => ?_) AllReadyH.nil
                    go_simp
                    refine hK.out _ _ (by (try dsimp only); (first | assumption | (go_split_ands; refine ⟨?_, ?_, ?_, ?_, ?_, ?_, ?_⟩ <;> exact (cell_put_ne (by dsimp only; omega)).trans (by assumption)) | go_keep)) (fun hHeld => ?_)
                    clear hK K
                    (try simp only [Act.put, List.setIfInBounds_toArray, List.set_cons_zero, List.set_cons_succ])
                    refine wpAnyH_done (by kernel_rfl) ?_ _
                    refine NoPanic.normal ?_
                  all_goals (clear hgrow)
                  all_goals (go_wp2)
                  all_goals
                    have hlc := Hi.out.1.lc
                    have hput := H6.out.2.1.put v (.slice (some ⟨g, 0, none⟩) (u + 1) cap)
                    rw [set_mid hlc] at hput
                    have hks7 := H6.out.2.2.put H6.out.2.1 (by omega) v (.slice (some ⟨g, 0, none⟩) (u + 1) cap)
                    have hsn := own3_snoc (p := (p1, p2, p3)) H6.out.1 (triTo_len lab m v u)
                    rw [← Hi.out.2.2.2.2.2.1, ← triTo_succ] at hsn
                    have hsn7 := hsn.kept (grown_put v (.slice (some ⟨g, 0, none⟩) (u + 1) cap)) (hsn.ne H6.out.2.1 (by decide))
                    exact ⟨⟨u + 1, _, by omega, by go_num, hks7, hput, hsn7, by simp [World.setCell]; omega⟩, by simp [intOf]; omega⟩
                · obtain rfl : M = u := by omega
                  have hM0 : 0 < M := by omega
                  have hc3 : wi.cell? ⟨w5.heap.size, 0, none⟩ = some (.slice (some ⟨w3.heap.size + 1, 0, none⟩) M M) := by rw [hks.x3.cell 0 (by simp)]; rfl
                  have hc4 : wi.cell? ⟨w5.heap.size + 1, 0, none⟩ = some (.func (.func 93) #[] #[]) := by rw [hks.x4.cell 0 (by simp)]; rfl
                  have hvl : v < (ds ++ x :: List.replicate (M - (v + 1)) (Value.slice none 0 0)).length := by simp [hks.lc]
                  have hxg : (ds ++ x :: List.replicate (M - (v + 1)) (Value.slice none 0 0))[v]? = some x := by
                    rw [List.getElem?_append_right (by rw [hks.lc]; exact Nat.le_refl _), hks.lc, Nat.sub_self]; rfl
                  have hck : wi.cell? ⟨w3.heap.size + 1, v, none⟩ = some x := by rw [hko.cell v hvl, hxg]
                  obtain ⟨ax, cx, rfl⟩ := hx.any_form
                  have htl := triTo_len lab m v M
                  have hsort := sortT_calls (triTo lab m v M) (wi.drewN 1) wq.heap.size ax cx (by exact hx) (by rw [htl]; omega)
                  rw [htl] at hxg hck hx hko hvl hsort
                  have hwo3 : wo.heap.size ≤ wi.heap.size := Nat.le_trans Hq.out.2.2.2.2 hKi
                  have hvM' : (v : Int) < (M : Int) := by omega
                  have Hi := Lib.hid (And.intro hks (And.intro hko (And.intro hx (And.intro hsort (And.intro hKi hwo3)))))
                  clear hks hko hx hsort hKi hwo3 hvl hxg htl
                  go_wp2
                  go_still_tail 5, (by kernel_rfl)
                  change wpList _ _ _ _ _ (wi.drewN 1)
                  go_wp2_with (go_at_call 94; refine Hi.out.2.2.2.1.mono ?_; rintro e w7 ⟨rfl, ss, hp, hs, ho, hg⟩; have H7 := Lib.hid (And.intro hp (And.intro hs (And.intro ho hg))); clear hp hs ho hg)
                  have hg7 : wi.grownBy w7 (Value.slice ax M cx).ownBlock := (grown_drewN wi 1 _).trans H7.out.2.2.2
                  have hsz7 := hg7.size
                  have hks7 := Hi.out.1.kept hg7 (fun g hg => by
                    rcases Hi.out.2.2.1.blk with e | ⟨g9, _, e, hB9, _⟩
                    · rw [e] at hg; cases hg
                    · rw [e] at hg; cases hg; exact hB9) Hi.out.2.2.2.2.2
                  have hko7 := Hi.out.2.1.kept hg7 (Hi.out.2.1.ne3 Hi.out.2.2.1 (by decide))
                  have hks8 := hks7.next (H7.out.2.2.1.mono Hq.out.2.2.2.2) H7.out.1 H7.out.2.1 (K' := w7.heap.size) (Nat.le_trans Hi.out.2.2.2.2.1 hsz7) (fun g hg => by
                    rcases H7.out.2.2.1.blk with e | ⟨g9, _, e, _, hl9, _⟩
                    · rw [e] at hg; cases hg
                    · rw [e] at hg; cases hg; exact hl9)
                  exact ⟨⟨v + 1, _, _, _, by omega, by go_num, hks8, by simpa using hko7, Nat.le_refl _⟩, by simp [intOf]; omega⟩
            · obtain rfl : M = v := by omega
              have hrl : ∀ xs ∈ ks, xs.length = M := fun xs hx => by
                obtain ⟨i, hi⟩ := List.mem_iff_getElem?.1 hx
                rw [(hks.key i xs hi).1.length_eq, triTo_len]
              have hbox := hks.boxes (by simpa using hko) Hx.out.2.2.1 Hx.out.2.2.2.1 (by omega)
              have hR : ∀ x, x < M → rowR lab ks x = keyL M (labelsL M cur) m x := fun x hx => by rw [Hx.out.2.2.2.2.1]; exact hks.rowR hx
              have hcall := (grouped_callsB M (by omega) (rowR lab ks) 96 _ (cfR lab ks) wq (refine_cmp (by omega) hbox) (refine_cf hks.lk hrl)).mono (R' := fun e w' => ∃ a c, e = .returned (.slice a (roundL M cur m).length c) ∧ RowsB wq.heap.size w' a (roundL M cur m) ∧ Below wq.heap.size wq w') (by
                rintro e w' ⟨a, c, P, he, hr, hp, hb⟩
                have hre := round_eq hR hp
                rw [hre] at he hr
                exact ⟨a, c, he, hr, hb⟩)
              have hgood := Hx.out.2.2.2.2.2.2.2.2.2.1
              have hgr := round_grows (m := m) hgood
              have hgd2 := (round_good M cur m).len_le
              have hf := Hx.out.2.2.2.2.2.2.2.2.2.2.1
              obtain ⟨N, hN⟩ : ∃ N, N = (roundL M cur m).length := ⟨_, rfl⟩
              rw [← hN] at hcall hgr hgd2
              rw [← Hx.out.2.2.2.2.2.1] at hgr hf
              have hbel : Below (D + 1) w1 wq := Hx.out.2.2.2.2.2.2.2.1.trans (hks.bel.mono hDE)
              have Hq := Lib.hid (And.intro hcall (And.intro hN (And.intro hbel (And.intro hDE hEq))))
              clear hcall hN hbel hks hko hrl hbox hR hgood
              by_cases hNC : N = C
              · have Hf := Lib.hid hNC
                have h1 : ((N : Int) == C) = true := by simp; omega
                go_wp2_with (go_at_call 95; refine Hq.out.1.mono ?_; rintro e w9 ⟨a9, c9, rfl, hr9, hb9⟩; have H9 := Lib.hid (And.intro hr9 hb9); clear hr9 hb9)
                go_ret2
                have hfin : refineL M l m = roundL M cur m := by rw [Hx.out.2.2.2.2.2.2.2.2.2.2.2, refL_end (by rw [← Hq.out.2.1, ← Hx.out.2.2.2.2.2.1]; exact Hf.out)]
                simp only [hfin]
                exact ⟨a9, c9, by rw [← Hq.out.2.1, hNC]; rfl, H9.out.1.mono (by have e1 := H1.out.size; have e2 := Hq.out.2.2.1.size; have e3 := H.out.2.1.size; first | omega | (simp at e3; omega)), H.out.2.1.trans ((H1.out.trans (Hq.out.2.2.1.trans (H9.out.2.mono (Nat.le_trans hDE hEq)))).mono (Nat.le_succ D))⟩
              · have h1 : ((N : Int) == C) = false := by simp; omega
                go_wp2_with (go_at_call 95; refine Hq.out.1.mono ?_; rintro e w9 ⟨a9, c9, rfl, hr9, hb9⟩; have H9 := Lib.hid (And.intro hr9 hb9); clear hr9 hb9)
                go_roundg (f')
                case measure => omega
                case rel =>
                  obtain ⟨f', rfl⟩ : ∃ f, f' = f + 1 := ⟨f' - 1, by omega⟩
                  refine ⟨a9, c9, roundL M cur m, f', by rw [Hq.out.2.1], H9.out.1.1, round_good _ _ _, Hq.out.2.2.1.trans (H9.out.2.mono (Nat.le_trans hDE hEq)), rfl, by rw [← Hq.out.2.1]; omega, ?_⟩
                  rw [Hx.out.2.2.2.2.2.2.2.2.2.2.2, refL_next (by rw [← Hq.out.2.1, ← Hx.out.2.2.2.2.2.1]; exact hNC)]
theorem refine_calls (n : Int) (al am : Option Addr) (cl cm : Nat) (l m : List (List Int)) (w : World) (hl : Rows w al l) (hm : Rows w am m) :
    Calls Tryz.prog 77 #[.int .i64 n, .slice al l.length cl, .slice am m.length cm] w fun e w' => ∃ a c, e = .returned (.tuple #[.slice a (refineA n l m).1.length c, .int .i64 (refineA n l m).2]) ∧ Rows w' a (refineA n l m).1 ∧ Below w.heap.size w w' :=
  (refine_callsB n al am cl cm l m w hl hm).mono fun e w' ⟨a, c, h1, h2, h3⟩ => ⟨a, c, h1, h2.1, h3⟩
end Go.Proofs.YtjjjohmppehejaaGreat
