/- The reference's widths, bits, digits, and the four bytes of a number. -/
import Derived.Test.YtjjjnpolhbbepaaDoorRefChecks
import Derived.Test.YtjjjnpolhbbepaaDoorBits
import Derived.Test.YtjjjnpolhbbepaaDoorAppStr
import Derived.Test.YtjjjnpolhbbepaaDoorPlainPack
set_option linter.unusedSimpArgs false
set_option linter.unusedVariables false
namespace Go.Proofs.YtjjjnpolhbbepaaDoor
open Go.RowKit
open Plain
/-- The row at v has become xs in v'; nothing else has changed. -/
structure RowTo (w w' : World) (B : Nat) (e : TypeId) (v v' : Value) (xs : List Value) : Prop where
  own : Own w' B v' e xs
  gr : w.grownBy w' v.ownBlock
  nw : v'.ownBlock = v.ownBlock ∨ ∃ g, v'.ownBlock = some g ∧ w.heap.size ≤ g
section
variable {w w1 w2 : World} {B : Nat} {e : TypeId} {v v1 v2 : Value} {xs ys : List Value}
theorem RowTo.refl (h : Own w B v e xs) : RowTo w w B e v v xs := ⟨h, World.grownBy.refl w _, .inl rfl⟩
theorem RowTo.trans (h : RowTo w w1 B e v v1 xs) (k : RowTo w1 w2 B e v1 v2 ys) : RowTo w w2 B e v v2 ys := by
  refine ⟨k.own, grown_new h.gr k.gr (fun g hg => ?_), ?_⟩
  · rcases h.nw with e | ⟨g', e, hl⟩
    · exact .inr (e.symm.trans hg)
    · rw [e] at hg; cases hg; exact .inl hl
  · rcases k.nw with e | ⟨g, e, hl⟩
    · rcases h.nw with e2 | ⟨g2, e2, hl2⟩
      · exact .inl (e.trans e2)
      · exact .inr ⟨g2, e.trans e2, hl2⟩
    · exact .inr ⟨g, e, Nat.le_trans h.gr.size hl⟩
theorem RowTo.below (h : RowTo w w1 B e v v1 xs) {B0 : Nat} (hB : B0 ≤ w.heap.size) (hv : ∀ g, v.ownBlock = some g → B0 ≤ g) : Below B0 w w1 :=
  ⟨h.gr.os, h.gr.tape, h.gr.output, h.gr.size, fun i hi => h.gr.block i (by omega) (fun e => by have := hv i e.symm; omega)⟩
theorem RowTo.size (h : RowTo w w1 B e v v1 xs) : w.heap.size ≤ w1.heap.size := h.gr.size
end
theorem Own.ge {w : World} {B : Nat} {v : Value} {e : TypeId} {xs : List Value} (h : Own w B v e xs) : ∀ g, v.ownBlock = some g → B ≤ g := fun g hg => by
  rcases h.blk with e | ⟨g', _, e, hB, _⟩
  · rw [e] at hg; cases hg
  · rw [e] at hg; cases hg; exact hB
theorem below_grownO' {w w1 w2 : World} {row : Option Nat} (h : Below w.heap.size w w1) (k : w1.grownBy w2 row) (hq : ∀ q, row = some q → w.heap.size ≤ q) : Below w.heap.size w w2 :=
  ⟨k.os.trans h.os, k.tape.trans h.tape, k.output.trans h.output, Nat.le_trans h.size k.size, fun b hb => (k.block b (Nat.lt_of_lt_of_le hb h.size) (fun e => by have := hq b e.symm; omega)).trans (h.block b hb)⟩
def nats (l : List Nat) : List Value := ints (l.map Int.ofNat)
theorem nats_len (l : List Nat) : (nats l).length = l.length := by simp [nats, ints]
theorem nats_app (l m : List Nat) : nats (l ++ m) = nats l ++ nats m := by simp [nats, ints]
theorem nats_get {l : List Nat} {k : Nat} (h : k < l.length) : (nats l)[k]? = some (.int .i64 ((l[k]?.getD 0 : Nat) : Int)) := by
  simp [nats, ints, List.getElem?_map, h]
theorem wrap_pow : ∀ k : Fin 7, wrap64 (2 ^ k.val) = ((2 ^ k.val : Nat) : Int) := by decide +kernel
theorem pow_wid : ∀ n : Fin 65, ∀ k : Fin 8, (2 ^ k.val < n.val ↔ k.val < wid n.val) := by decide +kernel
set_option maxHeartbeats 2000000 in
theorem rwidth_calls (n : Nat) (w : World) (hn : n ≤ 64) :
    Calls Tryd.prog 29 #[.int .i64 (n : Int)] w fun e w' => e = .returned (.int .i64 ((wid n : Nat) : Int)) ∧ w' = w := by
  have hwl := wid_le n hn
  have hp := fun k (hk : k ≤ 6) => pow_wid ⟨n, by omega⟩ ⟨k, by omega⟩
  simp only at hp
  obtain ⟨m, hm⟩ : ∃ m, wid n = m := ⟨_, rfl⟩
  rw [hm] at hp hwl ⊢
  have HP := Lib.hid hp
  clear hp hm
  go_enter Tryd.func29, Tryd.ntmps29
  go_wp2
  go_loop [3] (fun i => ∃ k : Nat, k ≤ m ∧ i = .int .i64 (k : Int)) (fun i => m - (intOf i).toNat)
  case atStart => exact ⟨0, Nat.zero_le _, rfl⟩
  case round =>
    obtain ⟨k, hk, rfl⟩ := hrel
    have hk2 := HP.out k (by omega)
    obtain ⟨P, hPk⟩ : ∃ P, 2 ^ k = P := ⟨_, rfl⟩
    have hPl : P ≤ 64 := by
      have : 2 ^ k ≤ 2 ^ 6 := Nat.pow_le_pow_right (by omega) (by omega)
      omega
    have hsh : wrap64 (2 ^ k) = (P : Int) := by rw [← hPk]; exact wrap_pow ⟨k, by omega⟩
    rw [hPk] at hk2
    clear hPk
    by_cases hlt : k < m
    · have h2 : P < n := hk2.2 hlt
      clear hk2
      go_wp2
      go_round
      case rel => exact ⟨k + 1, by omega, by go_num⟩
      case measure => simp [intOf]; omega
    · have h2 : ¬ P < n := fun h => hlt (hk2.1 h)
      obtain rfl : k = m := by omega
      clear hk2
      go_wp2
      go_ret
      exact ⟨rfl, rfl⟩
set_option maxRecDepth 100000 in
set_option maxHeartbeats 2000000 in
theorem rbitsL_calls {w : World} {B : Nat} {v : Value} {xs : List Nat} (n width : Nat) (h : Own w B v 3 (nats xs)) (hB : B ≤ w.heap.size) (hn : n < 1000000) (hm : width ≤ 20) (hl : xs.length < 1000000000) :
    Calls Tryd.prog 28 #[v, .int .i64 (n : Int), .int .i64 (width : Int)] w fun e w' => ∃ v', e = .returned v' ∧ RowTo w w' B 3 v v' (nats (xs ++ bitsN n width)) := by
  obtain ⟨i3, hi3, hz3, hs3, hb3⟩ := info_parts Tryd.info3
  have I3 := Lib.hid (And.intro hi3 (And.intro hz3 (And.intro hs3 hb3)))
  have H0 := Lib.hid h
  clear hi3 hz3 hs3 hb3 h
  go_enter Tryd.func28, Tryd.ntmps28
  go_wp2
  go_loopw [0, 2] (fun u0 u2 wr => ∃ k : Nat, k ≤ width ∧ u2 = .int .i64 (k : Int) ∧ RowTo w wr B 3 v u0 (nats (xs ++ bitsH n width k))) (fun _ u2 _ => (intOf u2).toNat)
  case atStart =>
    exact ⟨width, Nat.le_refl _, rfl, by unfold bitsH; simpa using RowTo.refl H0.out⟩
  case round =>
    obtain ⟨k, hk, rfl, hw⟩ := hrel
    match k, hk with
    | 0, _ =>
      have hz : bitsH n width 0 = bitsN n width := by unfold bitsH; rw [Nat.sub_zero, List.take_of_length_le (by rw [bitsN_len]; exact Nat.le_refl _)]
      rw [hz] at hw
      have H := Lib.hid hw
      clear hw hz
      go_wp2
      go_ret
      exact ⟨_, rfl, H.out⟩
    | j + 1, hk =>
      have hsplit := bitsH_succ (n := n) (w := width) (k := j) (by omega)
      have hbl : (nats (xs ++ bitsH n width (j + 1))).length < 1099511627776 := by
        rw [nats_len, List.length_append]; unfold bitsH; rw [List.length_take, bitsN_len]; omega
      have e0 : ((j + 1 : Nat) : Int) - 1 = (j : Int) := by omega
      have H := Lib.hid (And.intro hw hsplit)
      have HB := Lib.hid hbl
      have hsz : B ≤ wr.heap.size := Nat.le_trans hB hw.size
      have hown := Lib.hid hw.own
      clear hw hsplit hbl
      go_wp2_with (at_builtin; refine app1 rfl (.tmp 11) (.tmp 16) 56 3 rfl i3 (.int .i64 0) 8 Tryd.underlying56 I3.out.1 I3.out.2.1 I3.out.2.2.1 I3.out.2.2.2 rfl (by omega) B _ u0 (nats (xs ++ bitsH n width (j + 1))) rfl hown.out rfl rfl HB.out hsz ?_; intro v8 w8 h2 h3 h4; have H8 := Lib.hid (RowTo.mk h2 h3 h4); clear h2 h3 h4)
      refine ⟨⟨j, by omega, by go_num, ?_⟩, by simp [intOf]⟩
      have h8 := H8.out
      have ha : Go.bits .and .i64 ((n : Int) / 2 ^ j) 1 = ((n / 2 ^ j % 2 : Nat) : Int) := by
        have hle : n / 2 ^ j ≤ n := Nat.div_le_self _ _
        rw [show ((n : Int) / 2 ^ j) = ((n / 2 ^ j : Nat) : Int) by simp]
        exact and1_val _ (by omega)
      rw [ha] at h8
      have e1 : nats (xs ++ bitsH n width (j + 1)) ++ [Value.int .i64 ((n / 2 ^ j % 2 : Nat) : Int)] = nats (xs ++ bitsH n width j) := by
        rw [H.out.2, ← List.append_assoc, nats_app (xs ++ bitsH n width (j + 1))]; rfl
      rw [e1] at h8
      exact H.out.1.trans h8
/-- The digits so far, and zeros. -/
def digsTo (p : List Int) (i : Nat) (x : Nat) : List Nat := (digs p).take i ++ x :: List.replicate (p.length - i - 1) 0
theorem digsTo_zero {p : List Int} (h : 0 < p.length) : nats (digsTo p 0 0) = List.replicate p.length (Value.int .i64 0) := by
  unfold digsTo nats
  obtain ⟨m, hm⟩ : ∃ m, p.length = m + 1 := ⟨p.length - 1, by omega⟩
  rw [hm, List.take_zero, List.nil_append, show m + 1 - 0 - 1 = m by omega, ints_zero, List.replicate_succ]
  simp
theorem digsTo_next {p : List Int} {i x : Nat} (h : i + 1 < p.length) (hx : (digs p)[i]?.getD 0 = x) : digsTo p i x = digsTo p (i + 1) 0 := by
  unfold digsTo
  have hl : i < (digs p).length := by rw [digs_len]; omega
  rw [List.take_add_one, List.getElem?_eq_getElem hl, Option.toList_some, List.append_assoc]
  rw [List.getElem?_eq_getElem hl, Option.getD_some] at hx
  rw [hx, show p.length - i - 1 = (p.length - (i + 1) - 1) + 1 by omega, List.replicate_succ]
  rfl
theorem digsTo_end {p : List Int} {i x : Nat} (h : i + 1 = p.length) (hx : (digs p)[i]?.getD 0 = x) : digsTo p i x = digs p := by
  unfold digsTo
  have hl : i < (digs p).length := by rw [digs_len]; omega
  rw [show p.length - i - 1 = 0 by omega, List.replicate_zero]
  rw [List.getElem?_eq_getElem hl, Option.getD_some] at hx
  have h2 : (digs p).take (i + 1) = digs p := List.take_of_length_le (by rw [digs_len]; omega)
  conv => rhs; rw [← h2, List.take_add_one, List.getElem?_eq_getElem hl, Option.toList_some, hx]
theorem digsTo_len {p : List Int} {i x : Nat} (h : i < p.length) : (digsTo p i x).length = p.length := by
  unfold digsTo
  rw [List.length_append, List.length_take, digs_len, List.length_cons, List.length_replicate]; omega
theorem digsTo_get {p : List Int} {i x : Nat} (h : i < p.length) : (nats (digsTo p i x))[i]? = some (.int .i64 (x : Int)) := by
  rw [nats_get (by rw [digsTo_len h]; exact h)]
  unfold digsTo
  rw [List.getElem?_append_right (by rw [List.length_take, digs_len]; omega), List.length_take, digs_len, Nat.min_eq_left (by omega), Nat.sub_self]
  rfl
theorem digsTo_set {p : List Int} {i x y : Nat} (h : i < p.length) : (nats (digsTo p i x)).set i (.int .i64 (y : Int)) = nats (digsTo p i y) := by
  unfold nats
  rw [show (Value.int .i64 (y : Int)) = Value.int .i64 ((y : Nat) : Int) from rfl, ints_set]
  congr 1
  unfold digsTo
  rw [List.map_append, List.map_append, List.set_append_right _ _ (by rw [List.length_map, List.length_take, digs_len]; omega), List.length_map, List.length_take, digs_len, Nat.min_eq_left (by omega), Nat.sub_self]
  rfl
theorem digs_cnt {p : List Int} {i : Nat} (h : i < p.length) : (digs p)[i]?.getD 0 = cnt (p[i]?.getD 0) (p.drop (i + 1)) := by
  rw [digs_get p i h, List.drop_eq_getElem_cons h, List.getElem?_eq_getElem h]
  unfold cnt
  rw [List.filter_cons]
  simp only [Option.getD_some, Int.lt_irrefl, decide_false, Bool.false_eq_true, if_false]
set_option maxRecDepth 100000 in
set_option maxHeartbeats 4000000 in
theorem rdigits_calls {w : World} {a : Option Addr} {c : Nat} {p : List Int} (h : Ints w a p) (h0 : 1 ≤ p.length) (h64 : p.length ≤ 64) :
    Calls Tryd.prog 27 #[.slice a p.length c] w fun e w' => ∃ g, e = .returned (.slice (some ⟨g, 0, none⟩) p.length p.length) ∧ Own w' w.heap.size (.slice (some ⟨g, 0, none⟩) p.length p.length) 3 (nats (digs p)) ∧ Below w.heap.size w w' := by
  have H := Lib.hid h
  obtain ⟨n, hn⟩ : ∃ n, p.length = n := ⟨_, rfl⟩
  have hz := digsTo_zero (p := p) (by omega)
  rw [hn] at h0 h64 hz ⊢
  have Hn := Lib.hid (And.intro hn hz)
  obtain ⟨i3, hi3, hz3, hs3, hb3⟩ := info_parts Tryd.info3
  have I3 := Lib.hid (And.intro hi3 (And.intro hz3 (And.intro hs3 hb3)))
  clear h hn hi3 hz3 hs3 hb3 hz
  go_enter Tryd.func27, Tryd.ntmps27
  go_wp2_with (refine mk1 rfl (.tmp 7) (.tmp 7) 56 3 rfl i3 (.int .i64 0) 8 Tryd.underlying56 I3.out.1 I3.out.2.1 I3.out.2.2.1 I3.out.2.2.2 rfl (by omega) w.heap.size n rfl rfl (by omega) (Nat.le_refl _) ?_; intro w1 h2 h3 h4; rw [← Hn.out.2] at h2; have H1 := Lib.hid (And.intro h2 (And.intro h3 (Nat.le_of_eq h4.symm))); clear h2 h3 h4)
  go_loopw [4] (fun i wr => ∃ k : Nat, k ≤ n ∧ i = .int .i64 (k : Int) ∧ Own wr w.heap.size (.slice (some ⟨w.heap.size, 0, none⟩) n n) 3 (nats (if k < n then digsTo p k 0 else digs p)) ∧ w1.grownBy wr (some w.heap.size)) (fun i _ => n - (intOf i).toNat)
  case atStart =>
    exact ⟨0, Nat.zero_le _, rfl, by rw [if_pos (by omega)]; exact H1.out.1, World.grownBy.refl w1 _⟩
  case round =>
    obtain ⟨k, hk, rfl, hs, hg⟩ := hrel
    by_cases hlt : k < n
    · rw [if_pos hlt] at hs
      have hb : Below w.heap.size w wr := ⟨hg.os.trans H1.out.2.1.os, hg.tape.trans H1.out.2.1.tape, hg.output.trans H1.out.2.1.output, Nat.le_trans H1.out.2.1.size hg.size, fun b hb => (hg.block b (Nat.lt_of_lt_of_le hb H1.out.2.1.size) (fun e => by cases e; omega)).trans (H1.out.2.1.block b hb (by simp))⟩
      obtain ⟨b, o, rfl, hbl, hc⟩ := H.out.at_ (k := k) (by rw [Hn.out.1]; exact hlt)
      have hdc := digs_cnt (p := p) (i := k) (by rw [Hn.out.1]; exact hlt)
      obtain ⟨x, hx⟩ : ∃ x, p[k]?.getD 0 = x := ⟨_, rfl⟩
      rw [hx] at hc hdc
      have hdl : (p.drop (k + 1)).length = n - (k + 1) := by rw [List.length_drop, Hn.out.1]
      have hcells : ∀ t, t < n - (k + 1) → w.cell? ⟨b, o + (k + 1 + t), none⟩ = some (.int .i64 (((p.drop (k + 1))[t]?).getD 0)) := fun t ht => by
        obtain ⟨b', o', e', _, hc'⟩ := H.out.at_ (k := k + 1 + t) (by rw [Hn.out.1]; omega)
        injection e' with e'
        injection e' with e1 e2 _
        subst e1; subst e2
        rw [List.getElem?_drop]
        exact hc'
      have HK := Lib.hid (And.intro hc (And.intro hdc (And.intro hdl (And.intro hcells (And.intro hs (And.intro hg hb))))))
      clear hc hdc hdl hcells hs hg hb hx
      obtain ⟨wo, rfl⟩ : ∃ wo, wo = wr := ⟨_, rfl⟩
      go_wp2
      go_loopw [5] (fun i wr => ∃ t : Nat, t ≤ n - (k + 1) ∧ i = .int .i64 (((k + 1 + t : Nat)) : Int) ∧ Own wr w.heap.size (.slice (some ⟨w.heap.size, 0, none⟩) n n) 3 (nats (digsTo p k (cnt x ((p.drop (k + 1)).take t)))) ∧ wo.grownBy wr (some w.heap.size)) (fun i _ => n - (intOf i).toNat)
      case atStart =>
        exact ⟨0, Nat.zero_le _, rfl, by simpa [cnt] using HK.out.2.2.2.2.1, World.grownBy.refl wo _⟩
      case round =>
        obtain ⟨t, ht, rfl, hs, hg⟩ := hrel
        have hb : Below w.heap.size w wr := below_grownO' HK.out.2.2.2.2.2.2 hg (fun q e => by cases e; exact Nat.le_refl _)
        by_cases htl : t < n - (k + 1)
        · have hct := (hb.cell (p := ⟨b, o + (k + 1 + t), none⟩) hbl).trans (HK.out.2.2.2.1 t htl)
          have hck := (hb.cell (p := ⟨b, o + k, none⟩) hbl).trans HK.out.1
          have hst := cnt_step x (p.drop (k + 1)) t (by rw [HK.out.2.2.1]; exact htl)
          obtain ⟨y, hy⟩ : ∃ y, ((p.drop (k + 1))[t]?).getD 0 = y := ⟨_, rfl⟩
          rw [hy] at hct hst
          have hcl := cnt_le x ((p.drop (k + 1)).take t)
          have hcl2 : ((p.drop (k + 1)).take t).length ≤ t := List.length_take_le _ _
          obtain ⟨s0, hs0⟩ : ∃ s0, cnt x ((p.drop (k + 1)).take t) = s0 := ⟨_, rfl⟩
          rw [hs0] at hst hcl hs
          have hkp : k < p.length := by rw [Hn.out.1]; exact hlt
          have hcell := hs.cell k (by rw [nats_len, digsTo_len hkp, Hn.out.1]; exact hlt)
          rw [digsTo_get hkp] at hcell
          have hfr := hs.frozen k
          have hput := hs.put k (.int .i64 ((s0 + 1 : Nat) : Int))
          rw [digsTo_set hkp] at hput
          have hti : ((k + 1 + t : Nat) : Int) < n := by omega
          have hs9 : s0 ≤ 64 := by omega
          have hbb := Nat.lt_of_lt_of_le hbl hb.size
          by_cases hyx : y < x
          · rw [if_pos hyx] at hst
            have HS := Lib.hid (And.intro hst (And.intro hput (And.intro hg hs)))
            clear hst hs0 hy hcl2 hput hg hs hkp hb
            go_wp2
            go_quiet (fail)
            go_wp2
            go_roundw
            case rel =>
              refine ⟨t + 1, by omega, by go_num, ?_, (HS.out.2.2.1.trans ⟨rfl, rfl, rfl, Nat.le_refl _, fun _ _ _ => rfl⟩ : wo.grownBy (wr.drewN nq) _).trans (grown_put k _)⟩
              rw [HS.out.1]
              have h := (HS.out.2.2.2.drewN nq).put k (.int .i64 ((s0 + 1 : Nat) : Int))
              rw [digsTo_set (by rw [Hn.out.1]; exact hlt)] at h
              exact h
            case measure => simp [intOf]; omega
          · rw [if_neg hyx] at hst
            have HS := Lib.hid (And.intro hst (And.intro hg hs))
            have hxy : x ≤ y := by omega
            clear hst hs0 hy hcl2 hput hg hs hkp hb
            go_wp2
            go_quiet (fail)
            go_wp2
            go_roundw
            case rel =>
              refine ⟨t + 1, by omega, by go_num, ?_, (HS.out.2.1.trans ⟨rfl, rfl, rfl, Nat.le_refl _, fun _ _ _ => rfl⟩ : wo.grownBy (wr.drewN nq) _)⟩
              rw [HS.out.1]
              exact HS.out.2.2
            case measure => simp [intOf]; omega
        · obtain rfl : t = n - (k + 1) := by omega
          have htk : (p.drop (k + 1)).take (n - (k + 1)) = p.drop (k + 1) := List.take_of_length_le (by rw [HK.out.2.2.1]; exact Nat.le_refl _)
          rw [htk, ← HK.out.2.1] at hs
          have hkn : ¬ (((k + 1 + (n - (k + 1)) : Nat) : Int) < n) := by omega
          have HS := Lib.hid (And.intro hg hs)
          clear htk hs hg hb
          go_wp2
          refine ⟨⟨k + 1, by omega, by go_num, ?_, HK.out.2.2.2.2.2.1.trans HS.out.1⟩, by simp [intOf]; omega⟩
          have h9 := HS.out.2
          by_cases h2 : k + 1 < n
          · rw [if_pos h2, ← digsTo_next (x := (digs p)[k]?.getD 0) (by rw [Hn.out.1]; exact h2) rfl]
            exact h9
          · rw [if_neg h2]
            rw [digsTo_end (by rw [Hn.out.1]; omega) rfl] at h9
            exact h9
    · obtain rfl : k = n := by omega
      rw [if_neg hlt] at hs
      have hb : Below w.heap.size w wr := ⟨hg.os.trans H1.out.2.1.os, hg.tape.trans H1.out.2.1.tape, hg.output.trans H1.out.2.1.output, Nat.le_trans H1.out.2.1.size hg.size, fun b hb => (hg.block b (Nat.lt_of_lt_of_le hb H1.out.2.1.size) (fun e => by cases e; omega)).trans (H1.out.2.1.block b hb (by simp))⟩
      have HS := Lib.hid (And.intro hs hb)
      clear hs hg hb
      go_wp2
      go_ret
      exact ⟨_, rfl, HS.out⟩

set_option maxRecDepth 100000 in
set_option maxHeartbeats 2000000 in
/-- The four bytes of a number behind a row of bytes. -/
theorem rfour_calls {w : World} {B : Nat} {v : Value} {xs : List Nat} (S : Nat) (h : Own w B v 5 (byts xs)) (hB : B ≤ w.heap.size) (hS : S < 4294967296) (hl : xs.length < 1000000000) :
    Calls Tryd.prog 30 #[v, .int .u32 (S : Int)] w fun e w' => ∃ v', e = .returned v' ∧ RowTo w w' B 5 v v' (byts (xs ++ four S)) := by
  obtain ⟨i5, hi5, hz5, hs5, hb5⟩ := info_parts Tryd.info5
  have I5 := Lib.hid (And.intro hi5 (And.intro hz5 (And.intro hs5 hb5)))
  have H0 := Lib.hid h
  have hbl : (byts xs).length < 1000000000 := by rw [byts_len]; exact hl
  have HL := Lib.hid hbl
  clear hi5 hz5 hs5 hb5 h hbl
  go_enter Tryd.func30, Tryd.ntmps30
  have hn4 := World.news_of_block (heap_alloc_new w (.cells #[.int .u8 ((S : Int) / 16777216), .int .u8 ((S : Int) / 65536 % 256), .int .u8 ((S : Int) / 256 % 256), .int .u8 ((S : Int) % 256)] 5))
  have HN := Lib.hid hn4
  clear hn4
  go_wp2_with (at_builtin; refine appN rfl (.tmp 5) (.tmp 17) 23 5 rfl i5 (.int .u8 0) 1 Tryd.underlying23 I5.out.1 I5.out.2.1 I5.out.2.2.1 I5.out.2.2.2 rfl (by omega) B v (byts xs) [.int .u8 ((S : Int) / 16777216), .int .u8 ((S : Int) / 65536 % 256), .int .u8 ((S : Int) / 256 % 256), .int .u8 ((S : Int) % 256)] rfl (H0.out.alloc _) w.heap.size 0 4 4 rfl rfl (fun j y hy => by have := HN.out j y hy; rw [add_zero_addr] at this; exact this) (by intro y hy; simp only [List.mem_cons, List.not_mem_nil, or_false] at hy; rcases hy with rfl | rfl | rfl | rfl <;> rfl) (by have := HL.out; omega) (by rw [World.size_alloc]; omega) ?_; intro v2 w2 h2 h3 h4; have H2 := Lib.hid (And.intro h2 (And.intro h3 h4)); clear h2 h3 h4)
  go_ret
  have hbb : byts xs ++ [.int .u8 ((S : Int) / 16777216), .int .u8 ((S : Int) / 65536 % 256), .int .u8 ((S : Int) / 256 % 256), .int .u8 ((S : Int) % 256)] = byts (xs ++ four S) := by
    rw [byts_app]
    congr 1
    simp only [byts, four, List.map_cons, List.map_nil, List.cons.injEq, Value.int.injEq, true_and, and_true]
    omega
  obtain ⟨h2, h3, h4⟩ := H2.out
  rw [hbb] at h2
  refine ⟨_, rfl, h2, (grown_alloc w _ _).trans h3, ?_⟩
  rcases h4 with e | ⟨g, e, hg⟩
  · exact .inl e
  · exact .inr ⟨g, e, by rw [World.size_alloc] at hg; omega⟩
end Go.Proofs.YtjjjnpolhbbepaaDoor
