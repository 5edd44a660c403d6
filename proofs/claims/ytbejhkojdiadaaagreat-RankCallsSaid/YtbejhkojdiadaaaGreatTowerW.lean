/- The tower of the identity, and a tower built of permutations. -/
import Derived.Test.YtbejhkojdiadaaaGreatCloseW
set_option linter.unusedSimpArgs false
set_option linter.unusedVariables false
namespace Go.Proofs.YtbejhkojdiadaaaGreat
open Go.RowKit PlainPm
def lvZero : List Value := List.replicate 130 (.slice none 0 0) ++ List.replicate 64 (.int .i64 0)
theorem Tryz.info161 : (Tryz.prog.info? 161).map (fun i => (i.zero, i.size, i.bytes)) = some (some (.agg lvZero.toArray), 194, 3632) := by kernel_rfl
def lvF (c : Nat) : Value := if c % 194 < 130 then .slice none 0 0 else .int .i64 0
theorem lvZero_get {c : Nat} (h : c < 194) : lvZero[c]? = some (if c < 130 then .slice none 0 0 else .int .i64 0) := by
  unfold lvZero
  by_cases hc : c < 130
  · rw [List.getElem?_append_left (by simpa using hc), List.getElem?_replicate, if_pos hc, if_pos hc]
  · rw [List.getElem?_append_right (by simpa using hc), List.getElem?_replicate, List.length_replicate, if_pos (by omega), if_neg hc]
theorem made_lv (n : Nat) {c : Nat} (h : c < n * 194) : (madeCells (Value.agg lvZero.toArray).cells (n * 194))[c]? = some (lvF c) := by
  have hs : lvZero.toArray.size = 194 := by rw [List.size_toArray]; unfold lvZero; rw [List.length_append, List.length_replicate, List.length_replicate]
  have hm : c % 194 < 194 := Nat.mod_lt _ (by omega)
  have hg := lvZero_get hm
  unfold madeCells lvF
  rw [show (Value.agg lvZero.toArray).cells = lvZero.toArray from rfl, hs]
  rw [Array.getElem?_map, Array.getElem?_range]
  rw [if_pos h]
  simp only [Option.map_some]
  rw [← hg, getElem!_def]
  simp [hg]
/-- The levels from k on are not made yet. -/
def preT (n k : Nat) : Tw n := fun i => if i < k then tower0 n i else ⟨[], [], fun _ => none, fun _ => 0⟩
theorem heap_new0 (w : World) (o : Obj) : (w.alloc o).heap.size = w.heap.size + 1 := World.size_alloc ..
theorem TowW.congr {n B t G : Nat} {w : World} {M : List Nat} {T T' : Tw n} {F : Nat → Value} (h : TowW n B t G w M T F) (e : ∀ i, i < n → T i = T' i) : TowW n B t G w M T' F :=
  ⟨h.hn, h.tb, h.tl, h.tm, h.row, h.gm, h.mb, fun i c hi hc => by rw [← e i hi]; exact h.cells i c hi hc, h.blk, h.dis⟩
theorem tow_start {n B t G : Nat} {w : World} (hn : 0 < n ∧ n ≤ 64) (hB : B ≤ G) (ht : G < t) (htw : t < w.heap.size) (h1 : w.heap[G]? = some (.cells (madeCells (Value.agg lvZero.toArray).cells (n * 194)) 161))
    (t0 : w.cell? ⟨t, 0, none⟩ = some (.int .i64 (n : Int))) (t1 : w.cell? ⟨t, 1, none⟩ = some (.slice (some ⟨G, 0, none⟩) n n)) : TowW n B t G w [G] (preT n 0) lvF := by
  have hmod : ∀ i c, c < 194 → (194 * i + c) % 194 = c := fun i c hc => by omega
  have hl : ∀ i c, c < 130 → lvF (194 * i + c) = .slice none 0 0 := fun i c hc => by
    unfold lvF; rw [hmod i c (by omega), if_pos hc]
  refine ⟨hn, t0, t1, ⟨by simp; omega, htw⟩, ⟨_, h1, size_madeCells _ _, fun i hi => made_lv n hi⟩, by simp, fun m hm => ?_, fun i c hi hc => ?_, fun i c hi hc g hg => ?_, fun i c j d hi hc hj hd g hg => ?_⟩
  · rw [List.mem_singleton.1 hm]; omega
  · unfold CellOk fld preT
    rw [if_neg (by omega : ¬ i < 0)]
    by_cases c0 : c = 0
    · rw [if_pos c0, if_pos c0, hl i c (by omega)]
      exact ⟨[], Own.nil _ _ _, rfl, fun k s hs => by simp at hs⟩
    rw [if_neg c0, if_neg c0]
    by_cases c1 : c = 1
    · rw [if_pos c1, if_pos c1, hl i c (by omega)]
      exact Own.nil _ _ _
    rw [if_neg c1, if_neg c1]
    by_cases c2 : c < 66
    · rw [if_pos c2, if_pos c2, hl i c (by omega)]; rfl
    rw [if_neg c2, if_neg c2]
    by_cases c3 : c < 130
    · rw [if_pos c3, if_pos c3, hl i c c3]; rfl
    rw [if_neg c3, if_neg c3]
    unfold lvF
    rw [hmod i c hc, if_neg c3]; rfl
  · rw [hl i c (by omega)] at hg; cases hg
  · rw [hl i c (by omega)] at hg; cases hg
theorem heap_new (w : World) (o : Obj) : (w.alloc o).heap[w.heap.size]? = some o := by
  show (w.heap.push o)[w.heap.size]? = some o
  simp
theorem preT_step (n k : Nat) : updL (updL (preT n k) k (addOrb (preT n k k) k)) k (setTo (updL (preT n k) k (addOrb (preT n k k) k) k) k (PlainPm.one n)) = preT n (k + 1) := funext fun j => by
  by_cases e : j = k
  · subst e
    rw [updL_at, updL_at]
    unfold preT setTo addOrb tower0
    simp
  · rw [updL_ne _ _ e, updL_ne _ _ e]
    unfold preT
    by_cases h : j < k
    · rw [if_pos h, if_pos (by omega)]
    · rw [if_neg h, if_neg (by omega)]
set_option maxRecDepth 100000 in
set_option maxHeartbeats 4000000 in
theorem newTower_calls {n : Nat} (hn : 0 < n ∧ n ≤ 64) {w : World} :
    Calls Tryz.prog 143 #[.int .i64 (n : Int)] w fun e w' => ∃ t G M F, e = .returned (.pointer (some ⟨t, 0, none⟩)) ∧ TowW n w.heap.size t G w' M (tower0 n) F ∧ Below w.heap.size w w' := by
  obtain ⟨il, hi, hz, hs, hb⟩ := info_parts Tryz.info161
  have hmk := run_make (P := Tryz.prog) w 151 161 il (.agg lvZero.toArray) Tryz.underlying151 hi hz .i64 .i64 n n (by omega) (Int.le_refl _) (by rw [hb]; omega) (by omega)
  rw [hs] at hmk
  simp only [Int.toNat_natCast] at hmk
  clear hi hz hs hb il
  obtain ⟨A, hA⟩ : ∃ A, madeCells (Value.agg lvZero.toArray).cells (n * 194) = A := ⟨_, rfl⟩
  rw [hA] at hmk
  have HA := Lib.hid hA
  clear hA
  have hn1 := hn.2
  go_enter Tryz.func143, Tryz.ntmps143
  go_wp2_with fail
  obtain ⟨W0, hW0⟩ : ∃ W0, (w.alloc (.cells A 161)).alloc (.cells #[.int .i64 (n : Int), .slice (some ⟨w.heap.size, 0, none⟩) n n] 153) = W0 := ⟨_, rfl⟩
  rw [hW0]
  have hT0 : TowW n w.heap.size (w.heap.size + 1) w.heap.size W0 [w.heap.size] (preT n 0) lvF := by
    have hs1 : (w.alloc (.cells A 161)).heap.size = w.heap.size + 1 := heap_new0 _ _
    have hs2 : W0.heap.size = w.heap.size + 2 := by rw [← hW0, heap_new0, hs1]
    have h2 : W0.heap[w.heap.size + 1]? = some (.cells #[.int .i64 (n : Int), .slice (some ⟨w.heap.size, 0, none⟩) n n] 153) := by
      rw [← hW0, ← hs1]; exact heap_new _ _
    refine tow_start hn (Nat.le_refl _) (by omega) (by omega) ?_ ?_ ?_
    · rw [HA.out, ← hW0, Below.heap_alloc _ _ _ (by omega)]
      exact heap_new w _
    · simp [World.cell?, h2]
    · simp [World.cell?, h2]
  have hb0 : Below w.heap.size w W0 := by
    rw [← hW0]
    exact ((Below.refl _ w).alloc (Nat.le_refl _) _).alloc (by simp) _
  have H0 := Lib.hid (And.intro hT0 (And.intro hb0 hW0))
  clear hT0 hb0 hW0 hmk
  generalize hG : w.heap.size = G at *
  generalize ht : G + 1 = t at *
  have HG := Lib.hid (And.intro hG ht)
  clear hG ht
  go_loopw [16] (fun v wr => ∃ (k : Nat) (M : List Nat) (F : Nat → Value), k ≤ n ∧ v = .int .i64 (k : Int) ∧ TowW n G t G wr M (preT n k) F ∧ Stp W0 [G] wr M) (fun v _ => n - (intOf v).toNat)
  case atStart => exact ⟨0, [G], lvF, by omega, rfl, H0.out.1, Stp.refl _ _⟩
  case round =>
    obtain ⟨k, M, F, hk, rfl, hT, hS⟩ := hrel
    by_cases hkn : k < n
    · have t1 := hT.tl
      have g1 := hT.cell hkn (c := 1) (by omega)
      have gf := hT.row.frozen (k * 194 + 1)
      rw [show 194 * k + 1 = k * 194 + 1 by omega] at g1
      have hGw := hT.row.lt
      have htw := hT.tm.2
      have hGn : G ≠ wr.heap.size := by omega
      have htn : t ≠ wr.heap.size := by omega
      obtain ⟨ov, hov⟩ : ∃ ov, F (k * 194 + 1) = ov := ⟨_, rfl⟩
      rw [hov] at g1
      have ha := hT.appO (i := k) (p := k) (g := wr.heap.size) (m := 1) (cap := 1) (w6 := wr.alloc (.cells #[.int .i64 (k : Int)] 3)) hkn (grown_alloc _ _ _) (.inr (Nat.le_refl _)) (by
        have : (preT n k k).orb = [] := by unfold preT; rw [if_neg (by omega)]
        rw [this]
        exact Own.new 3 [.int .i64 (k : Int)] hT.gB (by unfold maxLen; simp))
      rw [World.setCell_alloc_past (hn := hGw)] at ha
      have ha := ha
      obtain ⟨V, hV⟩ : ∃ V, (wr.setCell ⟨G, k * 194 + 1, none⟩ (.slice (some ⟨wr.heap.size, 0, none⟩) 1 1)).alloc (.cells #[.int .i64 (k : Int)] 3) = V := ⟨_, rfl⟩
      have HP := Lib.hid (And.intro hT (And.intro hS (And.intro ha hV)))
      clear hT hS ha hov
      have hk1 : (k : Int) < n := by omega
      have hk64 : (k : Int) < 64 := by omega
      go_wp2_with fail
      obtain ⟨F2, hTV, hSV⟩ : ∃ F2, TowW n G t G V (wr.heap.size :: M) (updL (preT n k) k (addOrb (preT n k k) k)) F2 ∧ Stp wr M V (wr.heap.size :: M) := by
        have := HP.out.2.2.1
        rw [HP.out.2.2.2] at this
        exact ⟨_, this⟩
      obtain ⟨fp, hfp⟩ : ∃ fp, F2 (194 * k + (2 + k)) = fp := ⟨_, rfl⟩
      obtain ⟨fb, hfb⟩ : ∃ fb, F2 (194 * k + (66 + k)) = fb := ⟨_, rfl⟩
      have HV := Lib.hid (And.intro hTV (And.intro hSV (And.intro hfp hfb)))
      clear hTV hSV hfp hfb t1 g1 gf hGw htw hGn htn
      have hp2 : 2 + k < 194 := by omega
      have hp66 : 66 + k < 194 := by omega
      have hpa : 194 * k + (2 + k) = k * 194 + 2 + k := by omega
      have hpb : 194 * k + (66 + k) = k * 194 + 66 + k := by omega
      have hne : k * 194 + 2 + k ≠ k * 194 + 66 + k := by omega
      go_region_with (first
        | (go_at_call 156; refine (H5.out.2.2).mono ?_; rintro e w6 ⟨v6, rfl, k4, k5⟩; obtain ⟨jb, jc, rfl⟩ := k4.form; have h5 := H5.out.2.1.below k5; have cpw5 := h5.cell hkn (c := 2 + k) hp2; rw [HV.out.2.2.1, hpa] at cpw5; have cb5 := h5.cell hkn (c := 66 + k) hp66; rw [HV.out.2.2.2, hpb] at cb5; have fr1 := h5.row.frozen (k * 194 + 2 + k); have fr2 := h5.row.frozen (k * 194 + 66 + k); have H6 := Lib.hid (And.intro k4 (And.intro h5 k5)); clear k4 k5 h5)
        | (go_at_call 156; refine (one156 hn1).mono ?_; rintro e w5 ⟨v5, rfl, k4, k5⟩; obtain ⟨ib, ic, rfl⟩ := k4.form; have h5 := (HV.out.1.below (by first | exact Below.refl _ _ | exact below_self_drewN _ _)).below k5; have H5 := Lib.hid (And.intro k4 (And.intro h5 (one156 (w := w5) hn1))); have K5 := Lib.hid k5; clear k4 k5 h5))
      have hfin := H6.out.2.1.put2 hkn (p := k) (y := PlainPm.one n) (by omega) (H5.out.1.pm (M := wr.heap.size :: M) (fun m hm => (HV.out.1.mb m hm).2) |>.below H6.out.2.2) (by rw [Pm.inv_one]; exact H6.out.1.pm (fun m hm => (H5.out.2.1.mb m hm).2))
      rw [hpa, hpb, preT_step] at hfin
      go_wp2
      exact ⟨⟨k + 1, _, _, by omega, by go_num, hfin.1, HP.out.2.1.trans (HV.out.2.1.trans ((Stp.below (by first | exact K5.out | exact below_trans (below_self_drewN _ _) K5.out)).trans ((Stp.below H6.out.2.2).trans hfin.2)))⟩, by simp [intOf]; omega⟩
    · obtain rfl : k = n := by omega
      have HP := Lib.hid (And.intro hT hS)
      clear hT hS
      go_wp2_with fail
      go_ret
      rw [HG.out.1]
      exact ⟨t, G, M, F, rfl, HP.out.1.congr fun i hi => if_pos hi, H0.out.2.1.trans (HP.out.2.kept.below (by have := H0.out.2.1.size; have := HG.out.1; omega) (by simp))⟩
/-- A slice of permutations. -/
def PmsV {n : Nat} (w : World) (M : List Nat) (v : Value) (l : List (Pm n)) : Prop :=
  ∃ a c vs, v = .slice a l.length c ∧ Row w a vs ∧ PmL w M vs l
theorem PmsV.below {n : Nat} {w w' : World} {v : Value} {l : List (Pm n)} (h : PmsV w [] v l) (hb : Below w.heap.size w w') : PmsV w' [] v l := by
  obtain ⟨a, c, vs, rfl, h1, h2⟩ := h
  exact ⟨a, c, vs, rfl, h1.below hb, h2.stp (Stp.below hb)⟩
theorem PmV.fresh {n : Nat} {w w' : World} {M : List Nat} {v : Value} {x : Pm n} (h : PmV w [] v x) (hb : Below w.heap.size w w') (hM : ∀ m ∈ M, w.heap.size ≤ m) : PmV w' M v x := by
  obtain ⟨b, o, c, rfl, _, h2, h3⟩ := h
  exact ⟨b, o, c, rfl, fun hm => by have := hM b hm; omega, Nat.lt_of_lt_of_le h2 hb.size, fun i hi => (hb.cell (p := ⟨b, o + i, none⟩) h2).trans (h3 i hi)⟩
set_option maxRecDepth 100000 in
set_option maxHeartbeats 1000000 in
theorem build_calls {n : Nat} (hn : 0 < n ∧ n ≤ 64) {w : World} {v : Value} {l : List (Pm n)} (hl : l.length ≤ 1000000) (hv : PmsV w [] v l) :
    Calls Tryz.prog 103 #[.int .i64 (n : Int), v] w fun e w' => ∃ t G M T F, e = .returned (.pointer (some ⟨t, 0, none⟩)) ∧ TowW n w.heap.size t G w' M T F ∧ Built l T ∧ Below w.heap.size w w' := by
  obtain ⟨a, c, vs, rfl, hr, hp⟩ := hv
  have H := Lib.hid (And.intro hr hp)
  clear hr hp
  obtain ⟨L, hL⟩ : ∃ L, l.length = L := ⟨_, rfl⟩
  have hL0 := Lib.hid hL
  rw [hL] at hl ⊢
  clear hL
  go_enter Tryz.func103, Tryz.ntmps103
  go_wp2_with (go_at_call 143; refine (newTower_calls hn).mono ?_; rintro e w1 ⟨t, G, M, F, rfl, k1, k2⟩; have H1 := Lib.hid (And.intro k1 k2); clear k1 k2)
  go_loopw [12] (fun v wr => ∃ (k : Nat) (M' : List Nat) (T : Tw n) (F' : Nat → Value), k ≤ L ∧ v = .int .i64 (k : Int) ∧ TowW n w.heap.size t G wr M' T F' ∧ Built (l.take k) T ∧ Below w.heap.size w wr) (fun v _ => L - (intOf v).toNat)
  case atStart => exact ⟨0, M, _, F, by omega, rfl, H1.out.1, by rw [List.take_zero]; exact Built.start, H1.out.2⟩
  case round =>
    obtain ⟨k, M1, T1, F1, hk, rfl, hT, hB, hb⟩ := hrel
    by_cases hkl : k < L
    · obtain ⟨x, hx⟩ : ∃ x, l[k]? = some x := ⟨_, List.getElem?_eq_getElem (by rw [hL0.out]; exact hkl)⟩
      obtain ⟨u, hu, hpm⟩ := H.out.2.2 k x hx
      obtain ⟨ab, ao, hae, _, hac⟩ := (H.out.1.below hb).2 k u hu
      subst hae
      have hpm2 := hpm.fresh hb (fun m hm => (hT.mb m hm).1)
      obtain ⟨ub, uo, uc, rfl⟩ := hpm.form
      have hadd := add_close (B := w.heap.size) (t := t) (G := G) n 0 hn.1 (by omega) wr M1 T1 F1 x _ hT (hB.pre x) (fun j => by
        have := hB.ext.pot j
        have h0 : ((tower0 n) j).gens.length = 0 := rfl
        omega) hpm2
      have hs : l.take (k + 1) = l.take k ++ [x] := by rw [List.take_add_one, hx]; rfl
      have HP := Lib.hid (And.intro hT (And.intro hB (And.intro hb (And.intro hadd hs))))
      clear hT hB hb hadd hs hpm hpm2 hx hu
      have hk1 : (k : Int) < L := by omega
      go_wp2_with (go_at_call 144; refine HP.out.2.2.2.1.mono ?_; rintro e w4 ⟨rfl, M4, T4, F4, k1, k2, k3⟩; have H4 := Lib.hid (And.intro k1 (And.intro k2 k3)); clear k1 k2 k3)
      refine ⟨⟨k + 1, M4, T4, F4, by omega, by go_num, H4.out.1, ?_, ?_⟩, by simp [intOf]; omega⟩
      · rw [HP.out.2.2.2.2]; exact HP.out.2.1.snoc H4.out.2.1
      · exact HP.out.2.2.1.trans (H4.out.2.2.kept.below HP.out.2.2.1.size (fun m hm => (HP.out.1.mb m hm).1))
    · have hkL : k = L := by omega
      subst hkL
      rw [← hL0.out, List.take_length] at hB
      have HP := Lib.hid (And.intro hT (And.intro hB hb))
      clear hT hB hb
      go_wp2_with fail
      go_ret
      exact ⟨t, G, M1, T1, F1, rfl, HP.out.1, HP.out.2.1, HP.out.2.2⟩
end Go.Proofs.YtbejhkojdiadaaaGreat
