/- The tower of the identity, and a tower built of permutations. · The checks of permutations, of the program and of the reference. · Ranks, elements by rank and least elements in a chain of a group: plain. · A chain in memory, level by level; the sizes of its levels. · Places in lists: slices.IndexFunc, slices.BinarySearch and rank's lowest, with the closures of rank. -/
import Derived.Test.YtbejhkojdiadaaaGreatDoorRk01
import Derived.Test.YtbejhkojdiadaaaGreatDoorRk02
import Derived.Test.YtbejhkojdiadaaaGreatDoorRk03
import Derived.Test.YtbejhkojdiadaaaGreatDoorRk04
import Derived.Test.YtbejhkojdiadaaaGreatDoorProg
import Derived.Deep.RegionHeld3
import Derived.RangeFuncRecord
import Derived.Lib.SlicesSearch
import Derived.WalkKit
import Derived.WalkSpells
import Derived.BigQuiet
import Derived.Deep.QuietTactic
import Derived.Deep.LoopGhost
import Derived.Lib.Hide
import Derived.Maps.AppendAt
import Derived.Deep.AppendLies
import Derived.StillTailTactics
import Derived.Laws.CopyOwn
import Derived.Deep.OwnRows
import Derived.Deep.DeepCutAuto
import Derived.Laws.Cover3
set_option linter.unusedSimpArgs false
set_option linter.unusedVariables false
namespace Go.Proofs.YtbejhkojdiadaaaGreatDoor
open Go.RowKit PlainPm
def lvZero : List Value := List.replicate 130 (.slice none 0 0) ++ List.replicate 64 (.int .i64 0)
theorem Tryz.info144 : (Tryz.prog.info? 144).map (fun i => (i.zero, i.size, i.bytes)) = some (some (.agg lvZero.toArray), 194, 3632) := by kernel_rfl
def lvF (c : Nat) : Value := if c % 194 < 130 then .slice none 0 0 else .int .i64 0
theorem lvZero_get {c : Nat} (h : c < 194) : lvZero[c]? = some (if c < 130 then .slice none 0 0 else .int .i64 0) := by
  unfold lvZero
  by_cases hc : c < 130
  · rw [List.getElem?_append_left (by simpa using hc), List.getElem?_replicate, if_pos hc, if_pos hc]
  · rw [List.getElem?_append_right (by simpa using hc), List.getElem?_replicate, List.length_replicate, if_pos (by omega), if_neg hc]
theorem made_lv (n : Nat) {c : Nat} (h : c < n * 194) : (madeCells (Value.agg lvZero.toArray).cells (n * 194))[c]? = some (lvF c) := by
  have hs : lvZero.toArray.size = 194 := by rw [List.size_toArray]; unfold lvZero; rw [List.length_append, List.length_replicate, List.length_replicate]
  have hm : c % 194 < 194 := Nat.mod_lt _ (by omega)
  have hg := lvZero_get hm
  unfold madeCells lvF
  rw [show (Value.agg lvZero.toArray).cells = lvZero.toArray from rfl, hs]
  rw [Array.getElem?_map, Array.getElem?_range]
  rw [if_pos h]
  simp only [Option.map_some]
  rw [← hg, getElem!_def]
  simp [hg]
def preT (n k : Nat) : Tw n := fun i => if i < k then tower0 n i else ⟨[], [], fun _ => none, fun _ => 0⟩
theorem heap_new0 (w : World) (o : Obj) : (w.alloc o).heap.size = w.heap.size + 1 := World.size_alloc ..
theorem TowW.congr {n B t G : Nat} {w : World} {M : List Nat} {T T' : Tw n} {F : Nat → Value} (h : TowW n B t G w M T F) (e : ∀ i, i < n → T i = T' i) : TowW n B t G w M T' F :=
  ⟨h.hn, h.tb, h.tl, h.tm, h.row, h.gm, h.mb, fun i c hi hc => by rw [← e i hi]; exact h.cells i c hi hc, h.blk, h.dis⟩
theorem tow_start {n B t G : Nat} {w : World} (hn : 0 < n ∧ n ≤ 64) (hB : B ≤ G) (ht : G < t) (htw : t < w.heap.size) (h1 : w.heap[G]? = some (.cells (madeCells (Value.agg lvZero.toArray).cells (n * 194)) 144))
    (t0 : w.cell? ⟨t, 0, none⟩ = some (.int .i64 (n : Int))) (t1 : w.cell? ⟨t, 1, none⟩ = some (.slice (some ⟨G, 0, none⟩) n n)) : TowW n B t G w [G] (preT n 0) lvF := by
  have hmod : ∀ i c, c < 194 → (194 * i + c) % 194 = c := fun i c hc => by omega
  have hl : ∀ i c, c < 130 → lvF (194 * i + c) = .slice none 0 0 := fun i c hc => by
    unfold lvF; rw [hmod i c (by omega), if_pos hc]
  refine ⟨hn, t0, t1, ⟨by simp; omega, htw⟩, ⟨_, h1, size_madeCells _ _, fun i hi => made_lv n hi⟩, by simp, fun m hm => ?_, fun i c hi hc => ?_, fun i c hi hc g hg => ?_, fun i c j d hi hc hj hd g hg => ?_⟩
  · rw [List.mem_singleton.1 hm]; omega
  · unfold CellOk fld preT
    rw [if_neg (by omega : ¬ i < 0)]
    by_cases c0 : c = 0
    · rw [if_pos c0, if_pos c0, hl i c (by omega)]
      exact ⟨[], Own.nil _ _ _, rfl, fun k s hs => by simp at hs⟩
    rw [if_neg c0, if_neg c0]
    by_cases c1 : c = 1
    · rw [if_pos c1, if_pos c1, hl i c (by omega)]
      exact Own.nil _ _ _
    rw [if_neg c1, if_neg c1]
    by_cases c2 : c < 66
    · rw [if_pos c2, if_pos c2, hl i c (by omega)]; rfl
    rw [if_neg c2, if_neg c2]
    by_cases c3 : c < 130
    · rw [if_pos c3, if_pos c3, hl i c c3]; rfl
    rw [if_neg c3, if_neg c3]
    unfold lvF
    rw [hmod i c hc, if_neg c3]; rfl
  · rw [hl i c (by omega)] at hg; cases hg
  · rw [hl i c (by omega)] at hg; cases hg
theorem heap_new (w : World) (o : Obj) : (w.alloc o).heap[w.heap.size]? = some o := by
  show (w.heap.push o)[w.heap.size]? = some o
  simp
theorem preT_step (n k : Nat) : updL (updL (preT n k) k (addOrb (preT n k k) k)) k (setTo (updL (preT n k) k (addOrb (preT n k k) k) k) k (PlainPm.one n)) = preT n (k + 1) := funext fun j => by
  by_cases e : j = k
  · subst e
    rw [updL_at, updL_at]
    unfold preT setTo addOrb tower0
    simp
  · rw [updL_ne _ _ e, updL_ne _ _ e]
    unfold preT
    by_cases h : j < k
    · rw [if_pos h, if_pos (by omega)]
    · rw [if_neg h, if_neg (by omega)]
set_option maxRecDepth 100000 in
set_option maxHeartbeats 4000000 in
theorem newTower_calls {n : Nat} (hn : 0 < n ∧ n ≤ 64) {w : World} :
    Calls Tryz.prog 109 #[.int .i64 (n : Int)] w fun e w' => ∃ t G M F, e = .returned (.pointer (some ⟨t, 0, none⟩)) ∧ TowW n w.heap.size t G w' M (tower0 n) F ∧ Below w.heap.size w w' := by
  obtain ⟨il, hi, hz, hs, hb⟩ := info_parts Tryz.info144
  have hmk := run_make (P := Tryz.prog) w 134 144 il (.agg lvZero.toArray) Tryz.underlying134 hi hz .i64 .i64 n n (by omega) (Int.le_refl _) (by rw [hb]; omega) (by omega)
  rw [hs] at hmk
  simp only [Int.toNat_natCast] at hmk
  clear hi hz hs hb il
  obtain ⟨A, hA⟩ : ∃ A, madeCells (Value.agg lvZero.toArray).cells (n * 194) = A := ⟨_, rfl⟩
  rw [hA] at hmk
  have HA := Lib.hid hA
  clear hA
  have hn1 := hn.2
  go_enter Tryz.func109, Tryz.ntmps109
  go_wp2_with fail
  obtain ⟨W0, hW0⟩ : ∃ W0, (w.alloc (.cells A 144)).alloc (.cells #[.int .i64 (n : Int), .slice (some ⟨w.heap.size, 0, none⟩) n n] 136) = W0 := ⟨_, rfl⟩
  rw [hW0]
  have hT0 : TowW n w.heap.size (w.heap.size + 1) w.heap.size W0 [w.heap.size] (preT n 0) lvF := by
    have hs1 : (w.alloc (.cells A 144)).heap.size = w.heap.size + 1 := heap_new0 _ _
    have hs2 : W0.heap.size = w.heap.size + 2 := by rw [← hW0, heap_new0, hs1]
    have h2 : W0.heap[w.heap.size + 1]? = some (.cells #[.int .i64 (n : Int), .slice (some ⟨w.heap.size, 0, none⟩) n n] 136) := by
      rw [← hW0, ← hs1]; exact heap_new _ _
    refine tow_start hn (Nat.le_refl _) (by omega) (by omega) ?_ ?_ ?_
    · rw [HA.out, ← hW0, Below.heap_alloc _ _ _ (by omega)]
      exact heap_new w _
    · simp [World.cell?, h2]
    · simp [World.cell?, h2]
  have hb0 : Below w.heap.size w W0 := by
    rw [← hW0]
    exact ((Below.refl _ w).alloc (Nat.le_refl _) _).alloc (by simp) _
  have H0 := Lib.hid (And.intro hT0 (And.intro hb0 hW0))
  clear hT0 hb0 hW0 hmk
  generalize hG : w.heap.size = G at *
  generalize ht : G + 1 = t at *
  have HG := Lib.hid (And.intro hG ht)
  clear hG ht
  go_loopw [16] (fun v wr => ∃ (k : Nat) (M : List Nat) (F : Nat → Value), k ≤ n ∧ v = .int .i64 (k : Int) ∧ TowW n G t G wr M (preT n k) F ∧ Stp W0 [G] wr M) (fun v _ => n - (intOf v).toNat)
  case atStart => exact ⟨0, [G], lvF, by omega, rfl, H0.out.1, Stp.refl _ _⟩
  case round =>
    obtain ⟨k, M, F, hk, rfl, hT, hS⟩ := hrel
    by_cases hkn : k < n
    · have t1 := hT.tl
      have g1 := hT.cell hkn (c := 1) (by omega)
      have gf := hT.row.frozen (k * 194 + 1)
      rw [show 194 * k + 1 = k * 194 + 1 by omega] at g1
      have hGw := hT.row.lt
      have htw := hT.tm.2
      have hGn : G ≠ wr.heap.size := by omega
      have htn : t ≠ wr.heap.size := by omega
      obtain ⟨ov, hov⟩ : ∃ ov, F (k * 194 + 1) = ov := ⟨_, rfl⟩
      rw [hov] at g1
      have ha := hT.appO (i := k) (p := k) (g := wr.heap.size) (m := 1) (cap := 1) (w6 := wr.alloc (.cells #[.int .i64 (k : Int)] 3)) hkn (grown_alloc _ _ _) (.inr (Nat.le_refl _)) (by
        have : (preT n k k).orb = [] := by unfold preT; rw [if_neg (by omega)]
        rw [this]
        exact Own.new 3 [.int .i64 (k : Int)] hT.gB (by unfold maxLen; simp))
      rw [World.setCell_alloc_past (hn := hGw)] at ha
      have ha := ha
      obtain ⟨V, hV⟩ : ∃ V, (wr.setCell ⟨G, k * 194 + 1, none⟩ (.slice (some ⟨wr.heap.size, 0, none⟩) 1 1)).alloc (.cells #[.int .i64 (k : Int)] 3) = V := ⟨_, rfl⟩
      have HP := Lib.hid (And.intro hT (And.intro hS (And.intro ha hV)))
      clear hT hS ha hov
      have hk1 : (k : Int) < n := by omega
      have hk64 : (k : Int) < 64 := by omega
      go_wp2_with fail
      obtain ⟨F2, hTV, hSV⟩ : ∃ F2, TowW n G t G V (wr.heap.size :: M) (updL (preT n k) k (addOrb (preT n k k) k)) F2 ∧ Stp wr M V (wr.heap.size :: M) := by
        have := HP.out.2.2.1
        rw [HP.out.2.2.2] at this
        exact ⟨_, this⟩
      obtain ⟨fp, hfp⟩ : ∃ fp, F2 (194 * k + (2 + k)) = fp := ⟨_, rfl⟩
      obtain ⟨fb, hfb⟩ : ∃ fb, F2 (194 * k + (66 + k)) = fb := ⟨_, rfl⟩
      have HV := Lib.hid (And.intro hTV (And.intro hSV (And.intro hfp hfb)))
      clear hTV hSV hfp hfb t1 g1 gf hGw htw hGn htn
      have hp2 : 2 + k < 194 := by omega
      have hp66 : 66 + k < 194 := by omega
      have hpa : 194 * k + (2 + k) = k * 194 + 2 + k := by omega
      have hpb : 194 * k + (66 + k) = k * 194 + 66 + k := by omega
      have hne : k * 194 + 2 + k ≠ k * 194 + 66 + k := by omega
      go_region_with (first
        | (go_at_call 133; refine (H5.out.2.2).mono ?_; rintro e w6 ⟨v6, rfl, k4, k5⟩; obtain ⟨jb, jc, rfl⟩ := k4.form; have h5 := H5.out.2.1.below k5; have cpw5 := h5.cell hkn (c := 2 + k) hp2; rw [HV.out.2.2.1, hpa] at cpw5; have cb5 := h5.cell hkn (c := 66 + k) hp66; rw [HV.out.2.2.2, hpb] at cb5; have fr1 := h5.row.frozen (k * 194 + 2 + k); have fr2 := h5.row.frozen (k * 194 + 66 + k); have H6 := Lib.hid (And.intro k4 (And.intro h5 k5)); clear k4 k5 h5)
        | (go_at_call 133; refine (one156 hn1).mono ?_; rintro e w5 ⟨v5, rfl, k4, k5⟩; obtain ⟨ib, ic, rfl⟩ := k4.form; have h5 := (HV.out.1.below (by first | exact Below.refl _ _ | exact below_self_drewN _ _)).below k5; have H5 := Lib.hid (And.intro k4 (And.intro h5 (one156 (w := w5) hn1))); have K5 := Lib.hid k5; clear k4 k5 h5))
      have hfin := H6.out.2.1.put2 hkn (p := k) (y := PlainPm.one n) (by omega) (H5.out.1.pm (M := wr.heap.size :: M) (fun m hm => (HV.out.1.mb m hm).2) |>.below H6.out.2.2) (by rw [Pm.inv_one]; exact H6.out.1.pm (fun m hm => (H5.out.2.1.mb m hm).2))
      rw [hpa, hpb, preT_step] at hfin
      go_wp2
      exact ⟨⟨k + 1, _, _, by omega, by go_num, hfin.1, HP.out.2.1.trans (HV.out.2.1.trans ((Stp.below (by first | exact K5.out | exact below_trans (below_self_drewN _ _) K5.out)).trans ((Stp.below H6.out.2.2).trans hfin.2)))⟩, by simp [intOf]; omega⟩
    · obtain rfl : k = n := by omega
      have HP := Lib.hid (And.intro hT hS)
      clear hT hS
      go_wp2_with fail
      go_ret
      rw [HG.out.1]
      exact ⟨t, G, M, F, rfl, HP.out.1.congr fun i hi => if_pos hi, H0.out.2.1.trans (HP.out.2.kept.below (by have := H0.out.2.1.size; have := HG.out.1; omega) (by simp))⟩
def PmsV {n : Nat} (w : World) (M : List Nat) (v : Value) (l : List (Pm n)) : Prop :=
  ∃ a c vs, v = .slice a l.length c ∧ Row w a vs ∧ PmL w M vs l
theorem PmsV.below {n : Nat} {w w' : World} {v : Value} {l : List (Pm n)} (h : PmsV w [] v l) (hb : Below w.heap.size w w') : PmsV w' [] v l := by
  obtain ⟨a, c, vs, rfl, h1, h2⟩ := h
  exact ⟨a, c, vs, rfl, h1.below hb, h2.stp (Stp.below hb)⟩
theorem PmV.fresh {n : Nat} {w w' : World} {M : List Nat} {v : Value} {x : Pm n} (h : PmV w [] v x) (hb : Below w.heap.size w w') (hM : ∀ m ∈ M, w.heap.size ≤ m) : PmV w' M v x := by
  obtain ⟨b, o, c, rfl, _, h2, h3⟩ := h
  exact ⟨b, o, c, rfl, fun hm => by have := hM b hm; omega, Nat.lt_of_lt_of_le h2 hb.size, fun i hi => (hb.cell (p := ⟨b, o + i, none⟩) h2).trans (h3 i hi)⟩
set_option maxRecDepth 100000 in
set_option maxHeartbeats 1000000 in
theorem build_calls {n : Nat} (hn : 0 < n ∧ n ≤ 64) {w : World} {v : Value} {l : List (Pm n)} (hl : l.length ≤ 1000000) (hv : PmsV w [] v l) :
    Calls Tryz.prog 75 #[.int .i64 (n : Int), v] w fun e w' => ∃ t G M T F, e = .returned (.pointer (some ⟨t, 0, none⟩)) ∧ TowW n w.heap.size t G w' M T F ∧ Built l T ∧ Below w.heap.size w w' := by
  obtain ⟨a, c, vs, rfl, hr, hp⟩ := hv
  have H := Lib.hid (And.intro hr hp)
  clear hr hp
  obtain ⟨L, hL⟩ : ∃ L, l.length = L := ⟨_, rfl⟩
  have hL0 := Lib.hid hL
  rw [hL] at hl ⊢
  clear hL
  go_enter Tryz.func75, Tryz.ntmps75
  go_wp2_with (go_at_call 109; refine (newTower_calls hn).mono ?_; rintro e w1 ⟨t, G, M, F, rfl, k1, k2⟩; have H1 := Lib.hid (And.intro k1 k2); clear k1 k2)
  go_loopw [12] (fun v wr => ∃ (k : Nat) (M' : List Nat) (T : Tw n) (F' : Nat → Value), k ≤ L ∧ v = .int .i64 (k : Int) ∧ TowW n w.heap.size t G wr M' T F' ∧ Built (l.take k) T ∧ Below w.heap.size w wr) (fun v _ => L - (intOf v).toNat)
  case atStart => exact ⟨0, M, _, F, by omega, rfl, H1.out.1, by rw [List.take_zero]; exact Built.start, H1.out.2⟩
  case round =>
    obtain ⟨k, M1, T1, F1, hk, rfl, hT, hB, hb⟩ := hrel
    by_cases hkl : k < L
    · obtain ⟨x, hx⟩ : ∃ x, l[k]? = some x := ⟨_, List.getElem?_eq_getElem (by rw [hL0.out]; exact hkl)⟩
      obtain ⟨u, hu, hpm⟩ := H.out.2.2 k x hx
      obtain ⟨ab, ao, hae, _, hac⟩ := (H.out.1.below hb).2 k u hu
      subst hae
      have hpm2 := hpm.fresh hb (fun m hm => (hT.mb m hm).1)
      obtain ⟨ub, uo, uc, rfl⟩ := hpm.form
      have hadd := add_close (B := w.heap.size) (t := t) (G := G) n 0 hn.1 (by omega) wr M1 T1 F1 x _ hT (hB.pre x) (fun j => by
        have := hB.ext.pot j
        have h0 : ((tower0 n) j).gens.length = 0 := rfl
        omega) hpm2
      have hs : l.take (k + 1) = l.take k ++ [x] := by rw [List.take_add_one, hx]; rfl
      have HP := Lib.hid (And.intro hT (And.intro hB (And.intro hb (And.intro hadd hs))))
      clear hT hB hb hadd hs hpm hpm2 hx hu
      have hk1 : (k : Int) < L := by omega
      go_wp2_with (go_at_call 110; refine HP.out.2.2.2.1.mono ?_; rintro e w4 ⟨rfl, M4, T4, F4, k1, k2, k3⟩; have H4 := Lib.hid (And.intro k1 (And.intro k2 k3)); clear k1 k2 k3)
      refine ⟨⟨k + 1, M4, T4, F4, by omega, by go_num, H4.out.1, ?_, ?_⟩, by simp [intOf]; omega⟩
      · rw [HP.out.2.2.2.2]; exact HP.out.2.1.snoc H4.out.2.1
      · exact HP.out.2.2.1.trans (H4.out.2.2.kept.below HP.out.2.2.1.size (fun m hm => (HP.out.1.mb m hm).1))
    · have hkL : k = L := by omega
      subst hkL
      rw [← hL0.out, List.take_length] at hB
      have HP := Lib.hid (And.intro hT (And.intro hB hb))
      clear hT hB hb
      go_wp2_with fail
      go_ret
      exact ⟨t, G, M1, T1, F1, rfl, HP.out.1, HP.out.2.1, HP.out.2.2⟩
end Go.Proofs.YtbejhkojdiadaaaGreatDoor
namespace Go.Proofs.YtbejhkojdiadaaaGreatDoor
open Go.RowKit PlainPm
def okFrom (n : Nat) : List Int → List Int → Bool
  | _, [] => true
  | seen, x :: r => decide (0 ≤ x) && decide (x < n) && !(seen.contains x) && okFrom n (x :: seen) r
def fine (p : List Int) : Bool := okFrom p.length [] p
def chkPerm (p : List Int) : Int := if p.length < 1 ∨ 64 < p.length then 2 else if fine p then 0 else 3
theorem okFrom_iff (n : Nat) : ∀ (r seen : List Int), okFrom n seen r = true ↔ (∀ x ∈ r, 0 ≤ x ∧ x < n) ∧ r.Nodup ∧ ∀ x ∈ r, x ∉ seen
  | [], seen => by simp [okFrom]
  | x :: r, seen => by
    rw [okFrom]
    simp only [Bool.and_eq_true, decide_eq_true_eq, Bool.not_eq_true', List.contains_eq_mem, decide_eq_false_iff_not]
    rw [okFrom_iff n r (x :: seen)]
    simp only [List.mem_cons, List.nodup_cons, forall_eq_or_imp]
    constructor
    · rintro ⟨⟨⟨h1, h2⟩, h3⟩, h4, h5, h6⟩
      exact ⟨⟨⟨h1, h2⟩, h4⟩, ⟨fun hx => h6 x hx (.inl rfl), h5⟩, h3, fun y hy hs => h6 y hy (.inr hs)⟩
    · rintro ⟨⟨⟨h1, h2⟩, h4⟩, ⟨h5, h6⟩, h3, h7⟩
      exact ⟨⟨⟨h1, h2⟩, h3⟩, h4, h6, fun y hy => by rintro (rfl | hs); exact h5 hy; exact h7 y hy hs⟩
theorem okFrom_step {n : Nat} {p : List Int} {k : Nat} (hk : k < p.length) : okFrom n (p.take k).reverse (p.drop k) =
    (decide (0 ≤ p[k]?.getD 0) && decide (p[k]?.getD 0 < n) && !((p.take k).contains (p[k]?.getD 0)) && okFrom n (p.take (k + 1)).reverse (p.drop (k + 1))) := by
  rw [List.drop_eq_getElem_cons hk, okFrom, List.getElem?_eq_getElem hk, Option.getD_some, List.take_add_one, List.getElem?_eq_getElem hk, Option.toList_some, List.reverse_append]
  simp
def Seen (w : World) (Z : Nat) (l : List Int) : Prop := Z < w.heap.size ∧ ∀ j : Nat, j < 64 → w.cell? ⟨Z, j, none⟩ = some (.bool (l.contains (j : Int))) ∧ w.frozen? ⟨Z, j, none⟩ = false
theorem Seen.new {w : World} {cs : Array Value} {T : TypeId} (h : cs.toList = List.replicate 64 (Value.bool false)) : Seen (w.alloc (.cells cs T)) w.heap.size [] := by
  have hs : cs.size = 64 := by rw [← Array.length_toList, h, List.length_replicate]
  have hh := heap_new w (.cells cs T)
  refine ⟨?_, fun j hj => ?_⟩
  · rcases Nat.lt_or_ge w.heap.size (w.alloc (.cells cs T)).heap.size with hl | hl
    · exact hl
    · rw [Array.getElem?_eq_none hl] at hh; cases hh
  have hg : cs[j]? = some (.bool false) := by rw [← Array.getElem?_toList, h, List.getElem?_replicate, if_pos hj]
  constructor
  · unfold World.cell?
    simp only [hh]
    exact hg
  · unfold World.frozen?
    simp only [hh]
    simp
theorem Seen.put {w : World} {Z : Nat} {l : List Int} (h : Seen w Z l) (x : Nat) (hx : x < 64) : Seen (w.setCell ⟨Z, x, none⟩ (.bool true)) Z (l ++ [(x : Int)]) := by
  refine ⟨by simp [World.setCell]; exact h.1, fun j hj => ⟨?_, (World.frozen?_setCell _ _ _ _).trans (h.2 j hj).2⟩⟩
  by_cases e : j = x
  · subst e
    rw [World.cell?_setCell_same _ _ _ (h.2 j hj).1]
    simp
  · rw [World.cell?_setCell_other _ _ _ _ (by intro e'; simp only [Addr.mk.injEq] at e'; omega), (h.2 j hj).1]
    have : ¬ (j : Int) = (x : Int) := by omega
    simp [this]
def chkFine (p : List Int) : Int := if fine p then 0 else 3
theorem chkFine_yes {p : List Int} (h : fine p = true) : 0 = chkFine p := by unfold chkFine; rw [h]; rfl
theorem chkFine_no {p : List Int} (h : fine p = false) : 3 = chkFine p := by unfold chkFine; rw [h]; rfl
set_option maxHeartbeats 2000000 in
theorem perm_calls {w : World} {a : Option Addr} {c : Nat} {p : List Int} (h : Ints w a p) :
    Calls Tryz.prog 73 #[.slice a p.length c] w fun e w' => e = .returned (.int .i64 (chkPerm p)) ∧ Below w.heap.size w w' := by
  have hm := h.len
  have H := Lib.hid h
  obtain ⟨n, hn⟩ : ∃ n, p.length = n := ⟨_, rfl⟩
  have hcp : chkPerm p = if n < 1 ∨ 64 < n then 2 else chkFine p := by unfold chkPerm chkFine; rw [hn]
  rw [hcp]
  rw [hn] at hm ⊢
  have Hn := Lib.hid hn
  clear h hn hcp
  by_cases h1 : n < 1
  · rw [if_pos (.inl h1)]
    go_enter Tryz.func73, Tryz.ntmps73
    go_wp2
    go_ret
    exact ⟨rfl, Below.refl _ _⟩
  by_cases h2 : 64 < n
  · rw [if_pos (.inr h2)]
    go_enter Tryz.func73, Tryz.ntmps73
    go_wp2
    go_ret
    exact ⟨rfl, Below.refl _ _⟩
  rw [if_neg (by omega)]
  go_enter Tryz.func73, Tryz.ntmps73
  go_wp2
  go_loopw [16] (fun i wr => ∃ k : Nat, k ≤ n ∧ i = .int .i64 (k : Int) ∧ Seen wr w.heap.size (p.take k) ∧ Below w.heap.size w wr ∧ fine p = okFrom n (p.take k).reverse (p.drop k)) (fun i _ => n - (intOf i).toNat)
  case atStart =>
    exact ⟨0, Nat.zero_le _, rfl, Seen.new rfl, (Below.refl _ _).alloc (Nat.le_refl _) _, by unfold fine; rw [Hn.out]; rfl⟩
  case round =>
    obtain ⟨k, hk, rfl, hs, hb, hf⟩ := hrel
    by_cases hlt : k < n
    · obtain ⟨b, o, rfl, hbl, hc⟩ := H.out.at_ (k := k) (by rw [Hn.out]; exact hlt)
      have hst := okFrom_step (n := n) (p := p) (k := k) (by rw [Hn.out]; exact hlt)
      replace hc := (hb.cell (p := ⟨b, o + k, none⟩) hbl).trans hc
      obtain ⟨x, hx⟩ : ∃ x, p[k]?.getD 0 = x := ⟨_, rfl⟩
      have htk : p.take (k + 1) = p.take k ++ [x] := by
        rw [← hx, List.take_add_one, List.getElem?_eq_getElem (by rw [Hn.out]; exact hlt)]; rfl
      rw [hx] at hst hc
      by_cases hx0 : 0 ≤ x
      · obtain ⟨y, rfl⟩ : ∃ y : Nat, x = (y : Int) := ⟨x.toNat, by omega⟩
        by_cases hxn : (y : Int) < n
        · obtain ⟨hcy, hfy⟩ := hs.2 y (by omega)
          cases hsn : (p.take k).contains (y : Int)
          · rw [hsn] at hcy
            have hY : decide ((y : Int) < n) = true := by simpa using hxn
            have H2 := Lib.hid (And.intro hs (And.intro hb (And.intro hf (And.intro hst (And.intro htk hsn)))))
            clear hs hb hf hst htk hx hsn
            go_wp2
            go_roundw
            case rel =>
              refine ⟨k + 1, by omega, by go_num, ?_, H2.out.2.1.setCell (Nat.le_refl _) _, ?_⟩
              · rw [H2.out.2.2.2.2.1]; exact H2.out.1.put y (by omega)
              · rw [H2.out.2.2.1, H2.out.2.2.2.1, H2.out.2.2.2.2.2]; simp [hxn]
            case measure => simp [intOf]; omega
          · rw [hsn] at hcy
            have hz : fine p = false := by rw [hf, hst, hsn]; simp
            have H2 := Lib.hid (And.intro hb hz)
            clear hs hb hf hst htk hx hsn hz
            go_wp2
            go_ret
            exact ⟨ret_int (chkFine_no H2.out.2), H2.out.1⟩
        · have hz : fine p = false := by rw [hf, hst]; simp [hxn]
          have H2 := Lib.hid (And.intro hb hz)
          clear hs hb hf hst htk hx hz
          go_wp2
          go_ret
          exact ⟨ret_int (chkFine_no H2.out.2), H2.out.1⟩
      · have hz : fine p = false := by rw [hf, hst]; simp [hx0]
        have H2 := Lib.hid (And.intro hb hz)
        clear hs hb hf hst htk hx hz
        go_wp2
        go_ret
        exact ⟨ret_int (chkFine_no H2.out.2), H2.out.1⟩
    · have : k = n := by omega
      subst this
      have hz : fine p = true := by rw [hf, List.drop_of_length_le (by rw [Hn.out]; exact Nat.le_refl _)]; rfl
      have H2 := Lib.hid (And.intro hb hz)
      clear hs hb hf hz
      go_wp2
      go_ret
      exact ⟨ret_int (chkFine_yes H2.out.2), H2.out.1⟩

theorem Tryz.info4 : (Tryz.prog.info? 4).map (fun i => (i.zero, i.size, i.bytes)) = some (some (.bool false), 1, 1) := by kernel_rfl
def flags (n : Nat) (l : List Int) : List Value := (List.range n).map fun j : Nat => Value.bool (l.contains (j : Int))
theorem flags_len (n : Nat) (l : List Int) : (flags n l).length = n := by simp [flags]
theorem flags_nil (n : Nat) : List.replicate n (Value.bool false) = flags n [] := by
  unfold flags
  apply List.ext_getElem?
  intro i
  by_cases h : i < n
  · simp [h]
  · simp [h]
theorem flags_get {n : Nat} {l : List Int} {j : Nat} (h : j < n) : (flags n l)[j]? = some (.bool (l.contains (j : Int))) := by
  unfold flags; simp [h]
theorem flags_set {n : Nat} {l : List Int} {j : Nat} : (flags n l).set j (.bool true) = flags n (l ++ [(j : Int)]) := by
  apply List.ext_getElem?
  intro i
  by_cases hi : i < n
  · by_cases hij : j = i
    · subst hij
      rw [List.getElem?_set_self (by rw [flags_len]; exact hi), flags_get hi]; simp
    · rw [List.getElem?_set_ne hij, flags_get hi, flags_get hi]
      have : ¬ (i : Int) = (j : Int) := by omega
      simp [this]
  · rw [List.getElem?_eq_none (by rw [List.length_set, flags_len]; omega), List.getElem?_eq_none (by rw [flags_len]; omega)]
set_option maxRecDepth 100000 in
set_option maxHeartbeats 2000000 in
theorem fine_calls {w : World} {a : Option Addr} {c : Nat} {p : List Int} (h : Ints w a p) (h0 : 1 ≤ p.length) (h64 : p.length ≤ 64) :
    Calls Tryz.prog 33 #[.slice a p.length c, .int .i64 (p.length : Int)] w fun e w' => e = .returned (.bool (fine p)) ∧ Below w.heap.size w w' := by
  have H := Lib.hid h
  obtain ⟨n, hn⟩ : ∃ n, p.length = n := ⟨_, rfl⟩
  rw [hn] at h0 h64 ⊢
  have Hn := Lib.hid hn
  obtain ⟨i4, hi4, hz4, hs4, hb4⟩ := info_parts Tryz.info4
  have I4 := Lib.hid (And.intro hi4 (And.intro hz4 (And.intro hs4 hb4)))
  clear h hn hi4 hz4 hs4 hb4
  go_enter Tryz.func33, Tryz.ntmps33
  go_wp2_with (refine mk1 rfl (.tmp 11) (.tmp 11) 67 4 rfl i4 (.bool false) 1 Tryz.underlying67 I4.out.1 I4.out.2.1 I4.out.2.2.1 I4.out.2.2.2 rfl (by omega) w.heap.size n rfl rfl (by omega) (Nat.le_refl _) ?_; intro w1 h2 h3 h4; rw [flags_nil] at h2; have H1 := Lib.hid (And.intro h2 (And.intro h3 (Nat.le_of_eq h4.symm))); clear h2 h3 h4)
  go_loopw [6] (fun i wr => ∃ k : Nat, k ≤ n ∧ i = .int .i64 (k : Int) ∧ Own wr w.heap.size (.slice (some ⟨w.heap.size, 0, none⟩) n n) 4 (flags n (p.take k)) ∧ w1.grownBy wr (some w.heap.size) ∧ fine p = okFrom n (p.take k).reverse (p.drop k)) (fun i _ => n - (intOf i).toNat)
  case atStart =>
    exact ⟨0, Nat.zero_le _, rfl, H1.out.1, World.grownBy.refl w1 _, by unfold fine; rw [Hn.out]; rfl⟩
  case round =>
    obtain ⟨k, hk, rfl, hs, hg, hf⟩ := hrel
    have hb : Below w.heap.size w wr := ⟨hg.os.trans H1.out.2.1.os, hg.tape.trans H1.out.2.1.tape, hg.output.trans H1.out.2.1.output, Nat.le_trans H1.out.2.1.size hg.size, fun b hb => (hg.block b (Nat.lt_of_lt_of_le hb H1.out.2.1.size) (fun e => by cases e; omega)).trans (H1.out.2.1.block b hb (by simp))⟩
    by_cases hlt : k < n
    · obtain ⟨b, o, rfl, hbl, hc⟩ := H.out.at_ (k := k) (by rw [Hn.out]; exact hlt)
      have hst := okFrom_step (n := n) (p := p) (k := k) (by rw [Hn.out]; exact hlt)
      replace hc := (hb.cell (p := ⟨b, o + k, none⟩) hbl).trans hc
      obtain ⟨x, hx⟩ : ∃ x, p[k]?.getD 0 = x := ⟨_, rfl⟩
      have htk : p.take (k + 1) = p.take k ++ [x] := by
        rw [← hx, List.take_add_one, List.getElem?_eq_getElem (by rw [Hn.out]; exact hlt)]; rfl
      rw [hx] at hst hc
      by_cases hx0 : 0 ≤ x
      · obtain ⟨y, rfl⟩ : ∃ y : Nat, x = (y : Int) := ⟨x.toNat, by omega⟩
        by_cases hxn : (y : Int) < n
        · have hcy := hs.cell y (by rw [flags_len]; omega)
          rw [flags_get (by omega)] at hcy
          have hfy := hs.frozen y
          cases hsn : (p.take k).contains (y : Int)
          · rw [hsn] at hcy
            have hput := hs.put y (.bool true)
            rw [flags_set, ← htk] at hput
            have hY : decide ((y : Int) < n) = true := by simpa using hxn
            have hz : fine p = okFrom n (p.take (k + 1)).reverse (p.drop (k + 1)) := by
              rw [hf, hst, hsn]; simp [hxn]
            have H2 := Lib.hid (And.intro hput (And.intro hg hz))
            clear hs hb hf hst htk hx hsn hput hg hz
            go_wp2
            go_roundw
            case rel =>
              exact ⟨k + 1, by omega, by go_num, H2.out.1, H2.out.2.1.trans (grown_put y _), H2.out.2.2⟩
            case measure => simp [intOf]; omega
          · rw [hsn] at hcy
            have hz : fine p = false := by rw [hf, hst, hsn]; simp
            have H2 := Lib.hid (And.intro hb hz)
            clear hs hb hf hst htk hx hsn hz hg
            go_wp2
            go_ret
            exact ⟨ret_bool H2.out.2.symm, H2.out.1⟩
        · have hz : fine p = false := by rw [hf, hst]; simp [hxn]
          have H2 := Lib.hid (And.intro hb hz)
          clear hs hb hf hst htk hx hz hg
          go_wp2
          go_ret
          exact ⟨ret_bool H2.out.2.symm, H2.out.1⟩
      · have hz : fine p = false := by rw [hf, hst]; simp [hx0]
        have H2 := Lib.hid (And.intro hb hz)
        clear hs hb hf hst htk hx hz hg
        go_wp2
        go_ret
        exact ⟨ret_bool H2.out.2.symm, H2.out.1⟩
    · have : k = n := by omega
      subst this
      have hz : fine p = true := by rw [hf, List.drop_of_length_le (by rw [Hn.out]; exact Nat.le_refl _)]; rfl
      have H2 := Lib.hid (And.intro hb hz)
      clear hs hb hf hz hg
      go_wp2
      go_ret
      exact ⟨ret_bool H2.out.2.symm, H2.out.1⟩
set_option maxHeartbeats 2000000 in
theorem rperm_calls {w : World} {a : Option Addr} {c : Nat} {p : List Int} (h : Ints w a p) :
    Calls Tryz.prog 67 #[.slice a p.length c] w fun e w' => e = .returned (.int .i64 (chkPerm p)) ∧ Below w.heap.size w w' := by
  have hm := h.len
  have hfc := fun h0 h64 => fine_calls (c := c) h h0 h64
  obtain ⟨n, hn⟩ : ∃ n, p.length = n := ⟨_, rfl⟩
  have hcp : chkPerm p = if n < 1 ∨ 64 < n then 2 else chkFine p := by unfold chkPerm chkFine; rw [hn]
  rw [hcp]
  rw [hn] at hm hfc ⊢
  clear h hn hcp
  by_cases h1 : n < 1
  · rw [if_pos (.inl h1)]
    clear hfc
    go_enter Tryz.func67, Tryz.ntmps67
    go_wp2
    go_ret
    exact ⟨rfl, Below.refl _ _⟩
  by_cases h2 : 64 < n
  · rw [if_pos (.inr h2)]
    clear hfc
    go_enter Tryz.func67, Tryz.ntmps67
    go_wp2
    go_ret
    exact ⟨rfl, Below.refl _ _⟩
  rw [if_neg (by omega)]
  have hfc := hfc (by omega) (by omega)
  cases hF : fine p
  · rw [hF] at hfc
    have hz := chkFine_no hF
    rw [← hz]
    have HF := Lib.hid hfc
    clear hfc hF hz
    go_enter Tryz.func67, Tryz.ntmps67
    go_wp2_with (go_at_call 33; refine HF.out.mono ?_; rintro e w1 ⟨rfl, hb1⟩; have HB1 := Lib.hid hb1; clear hb1)
    go_ret
    exact ⟨rfl, HB1.out⟩
  · rw [hF] at hfc
    have hz := chkFine_yes hF
    rw [← hz]
    have HF := Lib.hid hfc
    clear hfc hF hz
    go_enter Tryz.func67, Tryz.ntmps67
    go_wp2_with (go_at_call 33; refine HF.out.mono ?_; rintro e w1 ⟨rfl, hb1⟩; have HB1 := Lib.hid hb1; clear hb1)
    go_ret
    exact ⟨rfl, HB1.out⟩

end Go.Proofs.YtbejhkojdiadaaaGreatDoor
namespace Go.Proofs.YtbejhkojdiadaaaGreatDoor.PlainPm
section
variable {n : Nat}
structure ChG (G : Pm n → Prop) (O : Nat → List Nat) (R : Nat → Nat → Pm n) : Prop where
  isG : IsG G
  nd : ∀ i, i < n → (O i).Nodup
  lt : ∀ i, i < n → ∀ p ∈ O i, p < n
  mem : ∀ i, i < n → ∀ p, p ∈ O i ↔ ∃ y, G y ∧ Fx i y ∧ y.at i = p
  rep : ∀ i, i < n → ∀ p ∈ O i, G (R i p) ∧ Fx i (R i p) ∧ (R i p).at i = p
theorem Of.chG {G : Pm n → Prop} (hG : IsG G) {T : Tw n} (h : Of G T) : ChG G (fun i => ptsOf n (T i).orb) (PlainPm.repT T) := by
  have hm : ∀ i, i < n → ∀ p, p ∈ ptsOf n (T i).orb ↔ ∃ y, G y ∧ Fx i y ∧ y.at i = p := fun i hi p => by
    rw [mem_ptsOf, h.orb hi]
    constructor
    · exact fun h => h.2
    · rintro ⟨y, h1, h2, h3⟩
      exact ⟨by rw [← h3]; exact y.lt hi, y, h1, h2, h3⟩
  refine ⟨hG, fun i hi => List.Nodup.sublist List.filter_sublist List.nodup_range, fun i hi p hp => (mem_ptsOf.1 hp).1, hm, fun i hi p hp => ?_⟩
  have := h.repT hG hi (mem_ptsOf.1 hp).2
  exact ⟨this.g, this.fx, this.im⟩
variable {G : Pm n → Prop} {O : Nat → List Nat} {R : Nat → Nat → Pm n}
theorem ChG.base (h : ChG G O R) {i : Nat} (hi : i < n) : i ∈ O i := (h.mem i hi i).2 ⟨PlainPm.one n, h.isG.one, Fx.one (by omega), one_at hi⟩
theorem ChG.pos (h : ChG G O R) {i : Nat} (hi : i < n) : 0 < (O i).length := List.length_pos_of_mem (h.base hi)
theorem ChG.short (h : ChG G O R) {i : Nat} (hi : i < n) : (O i).length ≤ n := by
  have := sub_len (m := List.range n) (h.nd i hi) (fun p hp => List.mem_range.2 (h.lt i hi p hp))
  simpa using this
theorem ChG.pick (h : ChG G O R) {i : Nat} (hi : i < n) {x y : Pm n} (hy : G y) (hx : G x) (hxy : ∀ j, j < i → y.at j = x.at j) : y.inv.at (x.at i) ∈ O i := by
  refine (h.mem i hi _).2 ⟨x.mul y.inv, h.isG.mul hx (h.isG.inv hy), fun j hj => ?_, Pm.mul_at _ _ hi⟩
  rw [Pm.mul_at _ _ (by omega), ← hxy j hj, y.inv_of (by omega)]
theorem ChG.step (h : ChG G O R) {i q : Nat} (hi : i < n) {y : Pm n} (hy : G y) (hq : q ∈ O i) :
    G ((R i q).mul y) ∧ (∀ j, j < i → ((R i q).mul y).at j = y.at j) ∧ ((R i q).mul y).at i = y.at q := by
  obtain ⟨h1, h2, h3⟩ := h.rep i hi q hq
  exact ⟨h.isG.mul h1 hy, fun j hj => by rw [Pm.mul_at _ _ (by omega), h2 j hj], by rw [Pm.mul_at _ _ hi, h3]⟩
def szF (O : Nat → List Nat) : Nat → Nat → Nat
  | 0, _ => 1
  | f + 1, i => (O i).length * szF O f (i + 1)
theorem ChG.sz_pos (h : ChG G O R) : ∀ {f i : Nat}, i + f = n → 0 < szF O f i
  | 0, _, _ => by simp [szF]
  | f + 1, i, hf => Nat.mul_pos (h.pos (by omega)) (h.sz_pos (f := f) (by omega))
theorem ChG.sz_le (h : ChG G O R) {m : Nat} (hm : n ≤ m) : ∀ {f i : Nat}, i + f = n → szF O f i ≤ m ^ f
  | 0, _, _ => by simp [szF]
  | f + 1, i, hf => by
    have h1 := h.sz_le hm (f := f) (i := i + 1) (by omega)
    have h2 := h.short (i := i) (by omega)
    rw [szF, Nat.pow_succ, Nat.mul_comm]
    exact Nat.mul_le_mul h1 (by omega)
def sfG (O : Nat → List Nat) (R : Nat → Nat → Pm n) : Nat → Nat → Pm n → Nat
  | 0, i, _ => i
  | f + 1, i, x => if x.at i ∈ O i then sfG O R f (i + 1) (x.mul (R i (x.at i)).inv) else i
theorem ChG.sf_iff (h : ChG G O R) : ∀ {f i : Nat} {x : Pm n}, i + f = n → Fx i x → (sfG O R f i x = n ↔ G x)
  | 0, i, x, hf, hx => by
    have hi : i = n := by omega
    subst hi
    rw [Fx.all hx]
    exact ⟨fun _ => h.isG.one, fun _ => rfl⟩
  | f + 1, i, x, hf, hx => by
    have hi : i < n := by omega
    by_cases hm : x.at i ∈ O i
    · rw [sfG, if_pos hm]
      obtain ⟨h1, h2, h3⟩ := h.rep i hi _ hm
      have hx' : Fx (i + 1) (x.mul (R i (x.at i)).inv) := by
        refine (hx.mul (by omega) (h2.inv (by omega))).succ ?_
        have := (R i (x.at i)).inv_of (i := i) hi
        rw [h3] at this
        rw [Pm.mul_at _ _ hi, this]
      rw [h.sf_iff (f := f) (by omega) hx']
      constructor
      · intro hg
        have := h.isG.mul hg h1
        rwa [Pm.inv_mul_cancel] at this
      · exact fun hg => h.isG.mul hg (h.isG.inv h1)
    · rw [sfG, if_neg hm]
      exact ⟨fun e => by omega, fun hg => absurd ((h.mem i hi _).2 ⟨x, hg, hx, rfl⟩) hm⟩
def cnt (y : Pm n) (l : List Nat) (v : Nat) : Nat := l.countP fun q => decide (y.at q < v)
theorem cnt_le (y : Pm n) (l : List Nat) (v : Nat) : cnt y l v ≤ l.length := List.countP_le_length
def rkF (O : Nat → List Nat) (R : Nat → Nat → Pm n) (x : Pm n) : Nat → Nat → Pm n → Nat → Option Nat
  | 0, _, _, a => some a
  | f + 1, i, y, a => if y.inv.at (x.at i) ∈ O i then rkF O R x f (i + 1) ((R i (y.inv.at (x.at i))).mul y) (a + cnt y (O i) (x.at i) * szF O f (i + 1)) else none
theorem ChG.rk_some (h : ChG G O R) {x : Pm n} : ∀ {f i a : Nat} {y : Pm n}, i + f = n → G y → (∀ j, j < i → y.at j = x.at j) → ((rkF O R x f i y a).isSome = true ↔ G x)
  | 0, i, a, y, hf, hy, hxy => by
    have : y = x := Pm.ext fun j hj => hxy j (by omega)
    subst this
    simp [rkF, hy]
  | f + 1, i, a, y, hf, hy, hxy => by
    have hi : i < n := by omega
    by_cases hm : y.inv.at (x.at i) ∈ O i
    · rw [rkF, if_pos hm]
      obtain ⟨h1, h2, h3⟩ := h.step hi hy hm
      refine h.rk_some (f := f) (by omega) h1 fun j hj => ?_
      by_cases e : j = i
      · subst e; rw [h3, (y.inv_at (x.lt hi)).2]
      · rw [h2 j (by omega)]; exact hxy j (by omega)
    · rw [rkF, if_neg hm]
      exact ⟨fun e => by simp at e, fun hx => absurd (h.pick hi hy hx hxy) hm⟩
def lstF (O : Nat → List Nat) (R : Nat → Nat → Pm n) : Nat → Nat → Pm n → Pm n
  | 0, _, x => x
  | f + 1, i, x => lstF O R f (i + 1) ((R i (best x (O i) ((O i).headD 0))).mul x)
theorem ChG.best_mem (h : ChG G O R) {i : Nat} (hi : i < n) (x : Pm n) : best x (O i) ((O i).headD 0) ∈ O i := by
  rcases (best_spec x (O i) ((O i).headD 0)).1 with e | e
  · rw [e]
    have := h.pos hi
    match ho : O i with
    | [] => rw [ho] at this; simp at this
    | p :: l => simp
  · exact e
def selQ (y : Pm n) (l : List Nat) (s : Nat) : Nat := (l.find? fun q => cnt y l (y.at q) == s).getD 0
theorem cnt_inj {y : Pm n} {l : List Nat} (hl : ∀ p ∈ l, p < n) {p q : Nat} (hp : p ∈ l) (hq : q ∈ l) (h : cnt y l (y.at p) = cnt y l (y.at q)) : p = q := by
  refine y.inj (hl p hp) (hl q hq) ?_
  have key : ∀ {a b : Nat}, a ∈ l → y.at a < y.at b → cnt y l (y.at a) < cnt y l (y.at b) := fun {a b} ha hab => by
    unfold cnt
    have h1 : ∀ m : List Nat, m.countP (fun q => decide (y.at q < y.at a)) ≤ m.countP (fun q => decide (y.at q < y.at b)) := fun m =>
      List.countP_mono_left fun q _ hq => by
        rw [decide_eq_true_iff] at hq ⊢; omega
    obtain ⟨l1, l2, rfl⟩ := List.append_of_mem ha
    have a1 := h1 l1
    have a2 := h1 l2
    rw [List.countP_append, List.countP_append, List.countP_cons_of_neg (by simp), List.countP_cons_of_pos (by simpa using hab)]
    omega
  rcases Nat.lt_trichotomy (y.at p) (y.at q) with h1 | h1 | h1
  · have := key hp h1; omega
  · exact h1
  · have := key hq h1; omega
theorem selQ_eq {y : Pm n} {l : List Nat} (hl : ∀ p ∈ l, p < n) {q s : Nat} (hq : q ∈ l) (h : cnt y l (y.at q) = s) : selQ y l s = q := by
  unfold selQ
  cases hf : l.find? (fun q => cnt y l (y.at q) == s) with
  | none =>
    have := List.find?_eq_none.1 hf q hq
    simp [h] at this
  | some p =>
    have h1 := List.find?_some hf
    have h2 := List.mem_of_find?_eq_some hf
    rw [beq_iff_eq] at h1
    exact cnt_inj (y := y) hl h2 hq (h1.trans h.symm)
def unF (O : Nat → List Nat) (R : Nat → Nat → Pm n) : Nat → Nat → Pm n → Nat → Pm n
  | 0, _, y, _ => y
  | f + 1, i, y, k => unF O R f (i + 1) ((R i (selQ y (O i) (k / szF O f (i + 1)))).mul y) (k % szF O f (i + 1))
theorem countP_sorted {l : List Int} (hs : l.Pairwise (· < ·)) {s : Nat} (hl : s < l.length) : l.countP (fun v => decide (v < l[s])) = s := by
  induction l generalizing s with
  | nil => simp at hl
  | cons a l ih =>
    rw [List.pairwise_cons] at hs
    match s with
    | 0 =>
      rw [List.countP_eq_zero]
      intro v hv
      simp only [List.getElem_cons_zero, decide_eq_true_iff]
      rcases List.mem_cons.1 hv with rfl | hv
      · omega
      · have := hs.1 v hv; omega
    | s + 1 =>
      have hl' : s < l.length := by simpa using hl
      simp only [List.getElem_cons_succ]
      rw [List.countP_cons_of_pos (by simpa using hs.1 _ (List.getElem_mem hl')), ih hs.2 hl']
theorem sel_sorted {y : Pm n} {l : List Nat} (hl : ∀ p ∈ l, p < n) (hd : l.Nodup) {m : List Int} (hp : m.Perm (l.map fun q => (y.at q : Int))) (hs : m.Pairwise (· ≤ ·)) {s : Nat} (h : s < l.length) :
    selQ y l s ∈ l ∧ cnt y l (y.at (selQ y l s)) = s ∧ m[s]? = some ((y.at (selQ y l s) : Nat) : Int) := by
  have hml : m.length = l.length := by rw [hp.length_eq, List.length_map]
  have hnd : m.Nodup := hp.nodup_iff.2 (nodup_map_on hd fun a ha b hb e => y.inj (hl a ha) (hl b hb) (by omega))
  have hs' : m.Pairwise (· < ·) := (hs.and hnd).imp fun h => by have := h.1; have := h.2; omega
  have hsm : s < m.length := by omega
  obtain ⟨q, hq, he⟩ := List.mem_map.1 (hp.mem_iff.1 (List.getElem_mem hsm))
  have hc := countP_sorted hs' hsm
  rw [hp.countP_eq, List.countP_map, ← he] at hc
  have hc2 : cnt y l (y.at q) = s := by
    rw [← hc]
    unfold cnt
    congr 1
    funext p
    simp
  have := selQ_eq hl hq hc2
  rw [this]
  exact ⟨hq, hc2, by rw [List.getElem?_eq_getElem hsm, ← he]⟩
end
end Go.Proofs.YtbejhkojdiadaaaGreatDoor.PlainPm
namespace Go.Proofs.YtbejhkojdiadaaaGreatDoor
open Go.RowKit PlainPm
abbrev cv (n ab ao c bb bo e : Nat) : Value := .agg #[.int .i64 (n : Int), .slice (some ⟨ab, ao, none⟩) n c, .slice (some ⟨bb, bo, none⟩) n e]
def PtsW (w : World) (v : Value) (l : List Nat) : Prop :=
  ∃ g o c, v = .slice (some ⟨g, o, none⟩) l.length c ∧ g < w.heap.size ∧ l.length ≤ 64 ∧ l.length ≤ c ∧ ∀ (k q : Nat), l[k]? = some q → w.cell? ⟨g, o + k, none⟩ = some (.int .i64 (q : Int))
def RepsW {n : Nat} (w : World) (v : Value) (l : List (Pm n)) : Prop :=
  ∃ g o c, v = .slice (some ⟨g, o, none⟩) l.length c ∧ g < w.heap.size ∧ l.length ≤ 64 ∧ l.length ≤ c ∧ ∀ (k : Nat) (x : Pm n), l[k]? = some x → ∃ u, w.cell? ⟨g, o + k, none⟩ = some u ∧ PmV w [] u x
structure LvW (n : Nat) (w : World) (O : Nat → List Nat) (R : Nat → Nat → Pm n) (ab ao bb bo : Nat) : Prop where
  orb : ∀ i, i < n → ∃ v, w.cell? ⟨ab, ao + i, none⟩ = some v ∧ PtsW w v (O i)
  rep : ∀ i, i < n → ∃ v, w.cell? ⟨bb, bo + i, none⟩ = some v ∧ RepsW w v ((O i).map (R i))
section
variable {n ab ao bb bo : Nat} {w w' : World} {O : Nat → List Nat} {R : Nat → Nat → Pm n}
theorem PtsW.below {v : Value} {l : List Nat} (h : PtsW w v l) (k : Below w.heap.size w w') : PtsW w' v l := by
  obtain ⟨g, o, c, rfl, h1, h2, h4, h3⟩ := h
  exact ⟨g, o, c, rfl, Nat.lt_of_lt_of_le h1 k.size, h2, h4, fun i q hq => (k.cell (p := ⟨g, o + i, none⟩) h1).trans (h3 i q hq)⟩
theorem RepsW.below {v : Value} {l : List (Pm n)} (h : RepsW w v l) (k : Below w.heap.size w w') : RepsW w' v l := by
  obtain ⟨g, o, c, rfl, h1, h2, h6, h3⟩ := h
  refine ⟨g, o, c, rfl, Nat.lt_of_lt_of_le h1 k.size, h2, h6, fun i x hx => ?_⟩
  obtain ⟨u, h4, h5⟩ := h3 i x hx
  exact ⟨u, (k.cell (p := ⟨g, o + i, none⟩) h1).trans h4, h5.below k⟩
theorem LvW.below (h : LvW n w O R ab ao bb bo) (k : Below w.heap.size w w') : LvW n w' O R ab ao bb bo := by
  refine ⟨fun i hi => ?_, fun i hi => ?_⟩
  · obtain ⟨v, h1, h2⟩ := h.orb i hi
    exact ⟨v, (k.cell (block_lt_of_cell h1)).trans h1, h2.below k⟩
  · obtain ⟨v, h1, h2⟩ := h.rep i hi
    exact ⟨v, (k.cell (block_lt_of_cell h1)).trans h1, h2.below k⟩
end
theorem box3a (w : World) (u0 u1 u2 : Value) (X : Nat) (hX : w.heap.size = X) : (w.alloc (.cells #[u0, u1, u2] 25)).cell? ⟨X, 0, none⟩ = some u0 ∧ (w.alloc (.cells #[u0, u1, u2] 25)).cell? ⟨X, 1, none⟩ = some u1 ∧ (w.alloc (.cells #[u0, u1, u2] 25)).cell? ⟨X, 2, none⟩ = some u2 := by
  subst hX
  have : (w.alloc (.cells #[u0, u1, u2] 25)).heap[w.heap.size]? = some (.cells #[u0, u1, u2] 25) := World.alloc_heap_new w _
  refine ⟨?_, ?_, ?_⟩ <;> (simp only [World.cell?, this]; rfl)
structure BoxW (w0 : World) (X n ab ao c bb bo e : Nat) (W : World) : Prop where
  bel : Below X w0 W
  c0 : W.cell? ⟨X, 0, none⟩ = some (.int .i64 (n : Int))
  c1 : W.cell? ⟨X, 1, none⟩ = some (.slice (some ⟨ab, ao, none⟩) n c)
  c2 : W.cell? ⟨X, 2, none⟩ = some (.slice (some ⟨bb, bo, none⟩) n e)
  lt : X < W.heap.size
theorem BoxW.below {w0 W W' : World} {X n ab ao c bb bo e : Nat} (h : BoxW w0 X n ab ao c bb bo e W) (k : Below (X + 1) W W') : BoxW w0 X n ab ao c bb bo e W' :=
  ⟨h.bel.trans (k.mono (by omega)), (k.cell (p := ⟨X, 0, none⟩) (by simp)).trans h.c0, (k.cell (p := ⟨X, 1, none⟩) (by simp)).trans h.c1, (k.cell (p := ⟨X, 2, none⟩) (by simp)).trans h.c2, Nat.lt_of_lt_of_le h.lt k.size⟩
theorem BoxW.start (w : World) (X n ab ao c bb bo e : Nat) (hX : w.heap.size = X) : BoxW w X n ab ao c bb bo e (w.alloc (.cells #[.int .i64 (n : Int), .slice (some ⟨ab, ao, none⟩) n c, .slice (some ⟨bb, bo, none⟩) n e] 25)) := by
  obtain ⟨h0, h1, h2⟩ := box3a w (.int .i64 (n : Int)) (.slice (some ⟨ab, ao, none⟩) n c) (.slice (some ⟨bb, bo, none⟩) n e) X hX
  exact ⟨by rw [← hX]; exact alloc_b (Below.refl _ _) _, h0, h1, h2, by simp; omega⟩
def szP (O : Nat → List Nat) (n m : Nat) : List Int := (List.range (n + 1)).map fun t => if m ≤ t then (szF O (n - t) t : Int) else 0
theorem szP_len (O : Nat → List Nat) (n m : Nat) : (szP O n m).length = n + 1 := by simp [szP]
theorem szP_set {O : Nat → List Nat} {n m : Nat} : (szP O n (m + 1)).set m (szF O (n - m) m : Int) = szP O n m := by
  refine List.ext_getElem? fun t => ?_
  unfold szP
  by_cases ht : t < n + 1
  · rw [List.getElem?_set, List.getElem?_map, List.getElem?_range ht]
    by_cases e : m = t
    · subst e; simp [ht]
    · rw [if_neg e, List.getElem?_map, List.getElem?_range ht]
      simp only [Option.map_some]
      by_cases h : m ≤ t
      · rw [if_pos (by omega), if_pos h]
      · rw [if_neg (by omega), if_neg h]
  · rw [List.getElem?_eq_none (by simp; omega), List.getElem?_eq_none (by simp; omega)]
theorem szP_zero {O : Nat → List Nat} {n : Nat} : (List.replicate (n + 1) (0 : Int)).set n 1 = szP O n n := by
  refine List.ext_getElem? fun t => ?_
  unfold szP
  by_cases ht : t < n + 1
  · rw [List.getElem?_set, List.getElem?_replicate, if_pos ht]
    rw [List.getElem?_map, List.getElem?_range ht]
    simp only [Option.map_some]
    by_cases e : n = t
    · subst e; simp [szF]
    · rw [if_neg e, if_neg (by omega)]
  · rw [List.getElem?_eq_none (by simp; omega), List.getElem?_eq_none (by simp; omega)]
theorem szP_get {O : Nat → List Nat} {n m t : Nat} (ht : t ≤ n) (hm : m ≤ t) : (szP O n m)[t]?.getD 0 = (szF O (n - t) t : Int) := by
  unfold szP
  rw [List.getElem?_map, List.getElem?_range (by omega)]
  simp [hm]
set_option maxRecDepth 100000 in
set_option maxHeartbeats 1000000 in
theorem sizes55 {n ab ao c bb bo e : Nat} (hn0 : 0 < n) (hn : n ≤ 8) {G : Pm n → Prop} {O : Nat → List Nat} {R : Nat → Nat → Pm n} (hG : ChG G O R) {w : World} (h : LvW n w O R ab ao bb bo) :
    Calls Tryz.prog 59 #[cv n ab ao c bb bo e] w fun e w' => ∃ v, e = .returned (.tuple #[v, .bool true]) ∧ Own w' w.heap.size v 3 (ints (szP O n 0)) ∧ Below w.heap.size w w' := by
  obtain ⟨i3, hi3, hz3, hs3, hb3⟩ := info_parts Tryz.info3
  have I3 := Lib.hid (And.intro hi3 (And.intro hz3 (And.intro hs3 hb3)))
  clear hi3 hz3 hs3 hb3
  obtain ⟨X, hX⟩ : ∃ X, w.heap.size = X := ⟨_, rfl⟩
  have hB0 := BoxW.start w X n ab ao c bb bo e hX
  obtain ⟨W1, hW1⟩ : ∃ W1, W1 = w.alloc (.cells #[.int .i64 (n : Int), .slice (some ⟨ab, ao, none⟩) n c, .slice (some ⟨bb, bo, none⟩) n e] 25) := ⟨_, rfl⟩
  rw [← hW1] at hB0
  have hs1 : W1.heap.size = X + 1 := by rw [hW1, ← hX]; simp
  have H := Lib.hid (And.intro h (And.intro hG (And.intro hB0 (And.intro hs1 hX))))
  obtain ⟨z0, z1, z2⟩ : W1.cell? ⟨X, 0, none⟩ = some (.int .i64 (n : Int)) ∧ W1.cell? ⟨X, 1, none⟩ = some (.slice (some ⟨ab, ao, none⟩) n c) ∧ W1.cell? ⟨X, 2, none⟩ = some (.slice (some ⟨bb, bo, none⟩) n e) := ⟨hB0.c0, hB0.c1, hB0.c2⟩
  clear h hG hB0 hs1
  go_enter Tryz.func59, Tryz.ntmps59
  try rw [hX]
  go_wp2_with (at_make; (try rw [← hW1]); refine mk1 rfl _ _ 40 3 rfl i3 (.int .i64 0) 8 Tryz.underlying40 I3.out.1 I3.out.2.1 I3.out.2.2.1 I3.out.2.2.2 rfl (by omega) W1.heap.size (n + 1) rfl rfl (by omega) (Nat.le_refl _) ?_; intro w1 hd hg hz1; rw [H.out.2.2.2.1] at hd hz1 ⊢; have hB1 := H.out.2.2.1.below (Below.refl _ _ |>.grown hg (by have := H.out.2.2.2.1; omega) (by simp)); have b0 := hB1.c0; have b1 := hB1.c1; have b2 := hB1.c2; have f1 := hd.frozen n; have d1 := hd.cell n (by simp); rw [List.getElem?_replicate, if_pos (by omega)] at d1; have H1 := Lib.hid (And.intro hd (And.intro hB1 hz1)); clear hd hg hz1 hB1)
  obtain ⟨W2, hW2⟩ : ∃ W2, W2 = w1.setCell ⟨X + 1, n, none⟩ (.int .i64 1) := ⟨_, rfl⟩
  have hO2 : Own W2 (X + 1) (.slice (some ⟨X + 1, 0, none⟩) (n + 1) (n + 1)) 3 (ints (szP O n n)) := by
    have := H1.out.1.put n (.int .i64 1)
    rw [hW2, ← szP_zero]
    rw [ints_zero, ints_set] at this
    exact this
  have hB2 : BoxW w X n ab ao c bb bo e W2 := by rw [hW2]; exact H1.out.2.1.below ((Below.refl _ _).setCell (p := ⟨X + 1, n, none⟩) (Nat.le_refl _) _)
  have H2 := Lib.hid (And.intro hO2 hB2)
  try rw [← hW2]
  clear hO2 hB2 hW2 z0 z1 z2 hW1
  go_loopw [5, 6] (fun i _ wr => ∃ (m : Nat), m ≤ n ∧ i = .int .i64 ((m : Int) - 1) ∧ Own wr (X + 1) (.slice (some ⟨X + 1, 0, none⟩) (n + 1) (n + 1)) 3 (ints (szP O n m)) ∧ BoxW w X n ab ao c bb bo e wr) (fun i _ _ => (intOf i + 1).toNat)
  case atStart => exact ⟨n, Nat.le_refl _, rfl, H2.out.1, H2.out.2⟩
  case round =>
    obtain ⟨m, hm, rfl, ho, hb⟩ := hrel
    match m, hm, ho with
    | 0, hm, ho =>
      have HP := Lib.hid (And.intro ho hb)
      clear ho hb
      go_wp2_with fail
      refine bodyPost_ret (v := .tuple #[.slice (some ⟨X + 1, 0, none⟩) (n + 1) (n + 1), .bool true]) (by simp [results, Tryz.results59, go_sem]) rfl ?_
      exact ⟨_, rfl, HP.out.1.mono (by have := H.out.2.2.2.2; omega), HP.out.2.bel⟩
    | m + 1, hm, ho =>
      have hmn : m < n := by omega
      have hmm : (((m + 1 : Nat) : Int)) - 1 = (m : Int) := by omega
      rw [hmm]
      obtain ⟨Z, hZ⟩ : ∃ Z, szF O (n - (m + 1)) (m + 1) = Z := ⟨_, rfl⟩
      obtain ⟨N, hN⟩ : ∃ N, (O m).length = N := ⟨_, rfl⟩
      have hNZ : szF O (n - m) m = N * Z := by rw [show n - m = n - (m + 1) + 1 by omega, szF, hN, hZ]
      have hZle : Z ≤ 16777216 := by
        have h1 := H.out.2.1.sz_le (m := 8) hn (f := n - (m + 1)) (i := m + 1) (by omega)
        rw [hZ] at h1
        exact Nat.le_trans h1 (Nat.le_trans (Nat.pow_le_pow_right (by omega) (show n - (m + 1) ≤ 8 by omega)) (by decide))
      have hN0 : 0 < N := by rw [← hN]; exact H.out.2.1.pos hmn
      have hN8 : N ≤ 8 := by rw [← hN]; exact Nat.le_trans (H.out.2.1.short hmn) hn
      have hW : Below w.heap.size w wr := by rw [H.out.2.2.2.2]; exact hb.bel
      obtain ⟨vo, y1, gp, go, gc, rfl, _, _, _, _⟩ := (H.out.1.below hW).orb m hmn
      rw [hN] at y1
      have d1 := (ho.cell (m + 1) (by rw [ints_len, szP_len]; omega)).trans (ints_get (by rw [szP_len]; omega))
      rw [szP_get (by omega) (Nat.le_refl _), hZ] at d1
      have f1 := ho.frozen m
      have d2 := (ho.cell m (by rw [ints_len, szP_len]; omega)).trans (ints_get (by rw [szP_len]; omega))
      have x0 := hb.c0
      have x1 := hb.c1
      have hq : (Z : Int) ≤ 1000000000000000000 / (N : Int) := by
        refine (Int.le_ediv_iff_mul_le (by omega)).2 ?_
        have : (Z : Int) * N ≤ 16777216 * 8 := Int.mul_le_mul (by omega) (by omega) (by omega) (by omega)
        omega
      have hq2 : ¬ (1000000000000000000 / (N : Int) < (Z : Int)) := by omega
      have hq3 : decide (1000000000000000000 / (N : Int) < (Z : Int)) = false := by simp; omega
      have hNn : ¬ (N : Int) = 0 := by omega
      have hmul : (Z : Int) * N ≤ 16777216 * 8 := Int.mul_le_mul (by omega) (by omega) (by omega) (by omega)
      have hmul0 : 0 ≤ (Z : Int) * N := by rw [← Int.natCast_mul]; omega
      have hmul' : (N : Int) * Z ≤ 16777216 * 8 := by rw [Int.mul_comm]; exact hmul
      have hmul0' : 0 ≤ (N : Int) * Z := by rw [Int.mul_comm]; exact hmul0
      have hw1 : IntKind.i64.wrap ((N : Int) * (Z : Int)) = (N : Int) * (Z : Int) := IntWalk.i64_in _ (by omega)
      have hw2 : IntKind.i64.wrap ((Z : Int) * (N : Int)) = (Z : Int) * (N : Int) := IntWalk.i64_in _ (by omega)
      have HP := Lib.hid (And.intro ho (And.intro hb hNZ))
      clear ho hb hNZ hZ hN hq hW hmul hmul0 hmul' hmul0' hN8 hZle
      go_wp2_with fail
      go_quiet (fail)
      go_wp2_with fail
      have hval : (N : Int) * (Z : Int) = (szF O (n - m) m : Int) := by rw [HP.out.2.2, Int.natCast_mul]
      have ho9 := (HP.out.1.drewN nq).put m (.int .i64 ((N : Int) * (Z : Int)))
      rw [ints_set] at ho9
      have he : (szP O n (m + 1)).set m ((N : Int) * (Z : Int)) = szP O n m := by rw [hval]; exact szP_set
      rw [he] at ho9
      have hbd : Below (X + 1) wr ((wr.drewN nq).setCell ⟨X + 1, m, none⟩ (.int .i64 ((N : Int) * (Z : Int)))) := (below_self_drewN wr nq).setCell (p := ⟨X + 1, m, none⟩) (Nat.le_refl _) _
      exact ⟨⟨m, by omega, rfl, ho9, HP.out.2.1.below hbd⟩, by simp [intOf]⟩
end Go.Proofs.YtbejhkojdiadaaaGreatDoor
namespace Go.Proofs.YtbejhkojdiadaaaGreatDoor
open Go.RowKit PlainPm
theorem pred109 {n : Nat} {y : Pm n} {va : Value} {p1 p2 im q : Nat} (hq : q < n) {W : World} (h1 : W.cell? ⟨p1, 0, none⟩ = some va) (hy : PmV W [] va y) (h2 : W.cell? ⟨p2, 0, none⟩ = some (.int .i64 (im : Int))) :
    Calls Tryz.prog 93 #[.int .i64 (q : Int), .pointer (some ⟨p1, 0, none⟩), .pointer (some ⟨p2, 0, none⟩)] W fun e w' => e = .returned (.bool ((y.at q : Int) == (im : Int))) ∧ ∃ m, w' = W.drewN m := by
  obtain ⟨b, o, c, rfl, _, hb, hc⟩ := hy
  have hcq := hc q hq
  obtain ⟨z, hz⟩ : ∃ z, y.at q = z := ⟨_, rfl⟩
  rw [hz] at hcq ⊢
  clear hc hz
  go_enter Tryz.func93, Tryz.ntmps93
  go_wp2_with fail
  go_quiet (fail)
  go_wp2_with fail
  go_ret
  exact ⟨rfl, _, rfl⟩
theorem img114 {n : Nat} {y : Pm n} {va : Value} {p1 q : Nat} (hq : q < n) {W : World} (h1 : W.cell? ⟨p1, 0, none⟩ = some va) (hy : PmV W [] va y) :
    Calls Tryz.prog 87 #[.int .i64 (q : Int), .pointer (some ⟨p1, 0, none⟩)] W fun e w' => e = .returned (.int .i64 (y.at q : Int)) ∧ w' = W := by
  obtain ⟨b, o, c, rfl, _, hb, hc⟩ := hy
  have hcq := hc q hq
  clear hc
  go_enter Tryz.func87, Tryz.ntmps87
  go_wp2_with fail
  go_ret
  exact ⟨rfl, rfl⟩
set_option maxRecDepth 100000 in
set_option maxHeartbeats 1000000 in
theorem idx108 {n : Nat} {y : Pm n} {va v : Value} {p1 p2 q : Nat} {l : List Nat} (hl : ∀ p ∈ l, p < n) (hq : q ∈ l) {w : World} (hv : PtsW w v l) (h1 : w.cell? ⟨p1, 0, none⟩ = some va) (hy : PmV w [] va y) (h2 : w.cell? ⟨p2, 0, none⟩ = some (.int .i64 (y.at q : Int))) :
    Calls Tryz.prog 92 #[v, .func (.func 93) #[] #[.pointer (some ⟨p1, 0, none⟩), .pointer (some ⟨p2, 0, none⟩)]] w fun e w' => ∃ k : Nat, e = .returned (.int .i64 (k : Int)) ∧ l[k]? = some q ∧ ∃ m, w' = w.drewN m := by
  obtain ⟨g, o, c, rfl, hg, h64, hcap, hc⟩ := hv
  obtain ⟨L, hL⟩ : ∃ L, l.length = L := ⟨_, rfl⟩
  have H := Lib.hid (And.intro hl (And.intro hq (And.intro h1 (And.intro hy (And.intro h2 (And.intro hc hL))))))
  rw [hL] at h64 ⊢
  clear hl hq h1 hy h2 hc hL
  go_enter Tryz.func92, Tryz.ntmps92
  go_wp2_with fail
  go_loopw [5, 8] (fun _ i wr => ∃ (k m : Nat), k ≤ L ∧ i = .int .i64 (k : Int) ∧ wr = w.drewN m ∧ ∀ j p, j < k → l[j]? = some p → p ≠ q) (fun _ i _ => L - (intOf i).toNat)
  case atStart => exact ⟨0, 0, by omega, rfl, rfl, fun j p hj => by omega⟩
  case round =>
    obtain ⟨k, m, hk, rfl, rfl, hno⟩ := hrel
    by_cases hkl : k < L
    · obtain ⟨p, hp⟩ : ∃ p, l[k]? = some p := ⟨_, List.getElem?_eq_getElem (by rw [H.out.2.2.2.2.2.2]; exact hkl)⟩
      have hpn := H.out.1 p (List.mem_of_getElem? hp)
      have hqn := H.out.1 q H.out.2.1
      have hcp : (w.drewN m).cell? ⟨g, o + k, none⟩ = some (.int .i64 (p : Int)) := H.out.2.2.2.2.2.1 k p hp
      have hcall := fun r => pred109 (y := y) (va := va) (p1 := p1) (p2 := p2) (im := y.at q) (q := p) hpn (W := w.drewN r) H.out.2.2.1 H.out.2.2.2.1 H.out.2.2.2.2.1
      have hinj : y.at p = y.at q → p = q := y.inj hpn hqn
      have HC := Lib.hid (And.intro hcall (And.intro hno (And.intro hp hinj)))
      have hk1 : (k : Int) < L := by omega
      clear hcall hno hp hinj
      by_cases e : p = q
      · subst e
        have hd : ((y.at p : Int) == (y.at p : Int)) = true := by simp
        go_wp2_with (go_at_call 93; with_reducible refine (HC.out.1 m).mono ?_; rintro e1 w1 ⟨rfl, r, rfl⟩)
        refine bodyPost_ret (v := .int .i64 (k : Int)) (by simp [results, Tryz.results92, go_sem]) rfl ?_
        exact ⟨k, rfl, HC.out.2.2.1, _, rfl⟩
      · have hd : ((y.at p : Int) == (y.at q : Int)) = false := by
          refine beq_eq_false_iff_ne.2 fun h => e (HC.out.2.2.2 (by omega))
        have He := Lib.hid e
        clear e
        go_wp2_with (go_at_call 93; with_reducible refine (HC.out.1 m).mono ?_; rintro e1 w1 ⟨rfl, r, rfl⟩)
        refine ⟨⟨k + 1, m + r, by omega, by go_num, rfl, fun j p' hj hp' => ?_⟩, by simp [intOf]; omega⟩
        by_cases ej : j = k
        · subst ej; rw [HC.out.2.2.1] at hp'; cases hp'; exact He.out
        · exact HC.out.2.1 j p' (by omega) hp'
    · obtain rfl : k = L := by omega
      obtain ⟨j, hj⟩ := List.mem_iff_getElem?.1 H.out.2.1
      have := (List.getElem?_eq_some_iff.1 hj).1
      exact absurd rfl (hno j q (by rw [← H.out.2.2.2.2.2.2]; exact this) hj)
set_option maxRecDepth 100000 in
set_option maxHeartbeats 1000000 in
theorem low113 {n : Nat} {y : Pm n} {va v : Value} {p1 : Nat} {l : List Nat} (hl : ∀ p ∈ l, p < n) (h0 : 0 < l.length) {w : World} (hv : PtsW w v l) (h1 : w.cell? ⟨p1, 0, none⟩ = some va) (hy : PmV w [] va y) :
    Calls Tryz.prog 86 #[v, .func (.func 87) #[] #[.pointer (some ⟨p1, 0, none⟩)]] w fun e w' => e = .returned (.int .i64 (best y l (l.headD 0) : Int)) ∧ w' = w := by
  obtain ⟨g, o, c, rfl, hg, h64, hcap, hc⟩ := hv
  obtain ⟨a, r, rfl⟩ : ∃ a r, l = a :: r := by
    cases l with
    | nil => simp at h0
    | cons a r => exact ⟨a, r, rfl⟩
  have hb : best y (a :: r) ((a :: r).headD 0) = best y r a := by rw [best_cons]; simp
  rw [hb]
  obtain ⟨L, hL⟩ : ∃ L, r.length = L := ⟨_, rfl⟩
  have hL1 : (a :: r).length = L + 1 := by simp [hL]
  rw [hL1] at h64 hcap ⊢
  have c0 : w.cell? ⟨g, o, none⟩ = some (.int .i64 (a : Int)) := by simpa using hc 0 a (by simp)
  have hl' : ∀ p ∈ r, p < n := fun p hp => hl p (by simp [hp])
  have hc' : ∀ (k q : Nat), r[k]? = some q → w.cell? ⟨g, o + 1 + k, none⟩ = some (.int .i64 (q : Int)) := fun k q hk => by
    have := hc (k + 1) q (by simpa using hk)
    rwa [show o + (k + 1) = o + 1 + k by omega] at this
  have ha := hl a (by simp)
  have H := Lib.hid (And.intro hl' (And.intro h1 (And.intro hy (And.intro hc' hL))))
  clear hl h1 hy hc hL hL1 hl' hc' h0 hb
  by_cases hL0 : L = 0
  · subst hL0
    have hr : r = [] := List.eq_nil_of_length_eq_zero H.out.2.2.2.2
    go_enter Tryz.func86, Tryz.ntmps86
    by_cases hc1 : c = 1
    · subst hc1
      go_wp2_with fail
      go_loopw [5, 7, 14] (fun b _ i wr => i = .int .i64 0 ∧ wr = w ∧ b = .int .i64 (a : Int)) (fun _ _ _ _ => 0)
      case atStart => exact ⟨rfl, rfl, rfl⟩
      case round =>
        obtain ⟨rfl, rfl, rfl⟩ := hrel
        go_wp2_with fail
        go_ret
        rw [hr]
        exact ⟨rfl, rfl⟩
    · go_wp2_with fail
      go_loopw [5, 7, 14] (fun b _ i wr => i = .int .i64 0 ∧ wr = w ∧ b = .int .i64 (a : Int)) (fun _ _ _ _ => 0)
      case atStart => exact ⟨rfl, rfl, rfl⟩
      case round =>
        obtain ⟨rfl, rfl, rfl⟩ := hrel
        go_wp2_with fail
        go_ret
        rw [hr]
        exact ⟨rfl, rfl⟩
  have hc1 : ¬ c = 1 := by omega
  go_enter Tryz.func86, Tryz.ntmps86
  go_wp2_with fail
  go_loopw [5, 7, 14] (fun b _ i wr => ∃ (k : Nat), k ≤ L ∧ i = .int .i64 (k : Int) ∧ wr = w ∧ b = .int .i64 (best y (r.take k) a : Int)) (fun _ _ i _ => L - (intOf i).toNat)
  case atStart => exact ⟨0, by omega, rfl, rfl, by simp [best]⟩
  case round =>
    obtain ⟨k, hk, rfl, rfl, rfl⟩ := hrel
    by_cases hkl : k < L
    · obtain ⟨p, hp⟩ : ∃ p, r[k]? = some p := ⟨_, List.getElem?_eq_getElem (by rw [H.out.2.2.2.2]; exact hkl)⟩
      have hpn := H.out.1 p (List.mem_of_getElem? hp)
      have hcp := H.out.2.2.2.1 k p hp
      obtain ⟨B, hB⟩ : ∃ B, best y (r.take k) a = B := ⟨_, rfl⟩
      have hBn : B < n := by
        rcases (best_spec y (r.take k) a).1 with e | e
        · rw [← hB, e]; exact ha
        · rw [← hB]; exact H.out.1 _ (List.mem_of_mem_take e)
      have hcall := fun (q : Nat) (hq : q < n) => img114 (y := y) (va := va) (p1 := p1) hq (W := wr) H.out.2.1 H.out.2.2.1
      have hnx : best y (r.take (k + 1)) a = if y.at p < y.at B then p else B := by rw [List.take_add_one, hp, Option.toList_some, best_snoc, hB]
      have HC := Lib.hid (And.intro (hcall p hpn) (And.intro (hcall B hBn) hnx))
      rw [hB]
      have hk1 : (k : Int) < L := by omega
      clear hcall hp hB hnx
      by_cases e : y.at p < y.at B
      · have hd : ((y.at p : Nat) : Int) < ((y.at B : Nat) : Int) := by omega
        go_wp2_with (first
          | (go_at_call 87; with_reducible refine HC.out.1.mono ?_; rintro e1 w1 ⟨rfl, rfl⟩)
          | (go_at_call 87; with_reducible refine HC.out.2.1.mono ?_; rintro e1 w1 ⟨rfl, rfl⟩))
        exact ⟨⟨k + 1, by omega, by go_num, trivial, by rw [HC.out.2.2, if_pos e]⟩, by simp [intOf]; omega⟩
      · have hd : ¬ ((y.at p : Nat) : Int) < ((y.at B : Nat) : Int) := by omega
        go_wp2_with (first
          | (go_at_call 87; with_reducible refine HC.out.1.mono ?_; rintro e1 w1 ⟨rfl, rfl⟩)
          | (go_at_call 87; with_reducible refine HC.out.2.1.mono ?_; rintro e1 w1 ⟨rfl, rfl⟩))
        exact ⟨⟨k + 1, by omega, by go_num, trivial, by rw [HC.out.2.2, if_neg e]⟩, by simp [intOf]; omega⟩
    · obtain rfl : k = L := by omega
      have hk1 : ¬ (k : Int) < k := by omega
      go_wp2_with fail
      go_ret
      have hh : r.take k = r := List.take_of_length_le (by rw [H.out.2.2.2.2]; exact Nat.le_refl _)
      rw [hh]
      exact ⟨rfl, rfl⟩
theorem nan106 (x : Int) (w : World) : Calls Tryz.prog 95 #[.int .i64 x] w fun e w' => e = .returned (.bool false) ∧ w' = w := by
  go_enter Tryz.func95, Tryz.ntmps95
  go_wp2
  go_ret
  exact ⟨by simp, rfl⟩
theorem nan148 (x : Int) (w : World) : Calls Tryz.prog 132 #[.int .i64 x] w fun e w' => e = .returned (.bool false) ∧ w' = w := by
  go_enter Tryz.func132, Tryz.ntmps132
  go_wp2
  go_ret
  exact ⟨by simp, rfl⟩
theorem less105 (x y : Int) (w : World) : Calls Tryz.prog 94 #[.int .i64 x, .int .i64 y] w fun e w' => e = .returned (.bool (decide (x < y))) ∧ w' = w := by
  go_enter Tryz.func94, Tryz.ntmps94
  go_wp2_with (go_at_call 132; with_reducible refine (nan148 _ _).mono ?_; rintro e w' ⟨rfl, rfl⟩)
  go_ret
  exact ⟨rfl, rfl⟩
set_option maxRecDepth 100000 in
set_option maxHeartbeats 4000000 in
theorem bs60 {g c : Nat} {zs : List Int} {x : Int} {w : World} (hn : zs.length ≤ 64) (hc : ∀ j, j < zs.length → w.cell? ⟨g, j, none⟩ = some (.int .i64 (zs.getD j 0))) (hs : zs.Pairwise (· ≤ ·)) :
    Calls Tryz.prog 63 #[.slice (some ⟨g, 0, none⟩) zs.length c, .int .i64 x] w fun e w' => e = .returned (.tuple #[.int .i64 (zs.countP (· < x) : Nat), .bool (zs.contains x)]) ∧ ∃ q, w' = w.drewN q := by
  have S0 := Lib.sorted_at zs zs.length (Nat.le_refl _) (by rw [List.take_length]; exact hs)
  have E0 := fun hi h1 h2 h3 => Lib.search_end zs zs.length hi x (Nat.le_refl _) h1 h2 h3 S0
  simp only [List.take_length] at E0
  obtain ⟨n, hn'⟩ : ∃ n, zs.length = n := ⟨_, rfl⟩
  rw [hn'] at hn hc S0 E0 ⊢
  have S := Lib.hid (And.intro S0 (And.intro E0 hn'))
  clear hs S0 E0 hn'
  go_enter Tryz.func63, Tryz.ntmps63
  go_wp2_with fail
  go_loopw [7, 8, 9] (fun s7 s8 _ wr => ∃ lo hi q : Nat, s7 = .int .i64 lo ∧ s8 = .int .i64 hi ∧ lo ≤ hi ∧ hi ≤ n ∧ wr = w.drewN q ∧ (∀ t, t < lo → zs.getD t 0 < x) ∧ (∀ t, hi ≤ t → t < n → x ≤ zs.getD t 0)) (fun s7 s8 _ _ => (intOf s8 - intOf s7).toNat)
  case atStart => exact ⟨0, n, 0, rfl, rfl, Nat.zero_le _, Nat.le_refl _, rfl, fun t ht => absurd ht (Nat.not_lt_zero _), fun t h1 h2 => by omega⟩
  case round =>
    obtain ⟨lo, hi, q, rfl, rfl, hlh, hin, rfl, h1, h2⟩ := hrel
    have I := Lib.hid (And.intro h1 h2)
    clear h1 h2
    by_cases hlt : lo < hi
    · have cm : w.cell? ⟨g, (lo + hi) / 2, none⟩ = some (.int .i64 (zs.getD ((lo + hi) / 2) 0)) := hc _ (by omega)
      obtain ⟨y, hy⟩ : ∃ y, zs.getD ((lo + hi) / 2) 0 = y := ⟨_, rfl⟩
      rw [hy] at cm
      have Y := Lib.hid (And.intro hc hy)
      clear hc hy
      by_cases hyx : y < x
      · go_wp2_with (first | (go_at_call 94; with_reducible refine (less105 _ _ _).mono ?_; rintro e w' ⟨rfl, rfl⟩) | (go_at_call 95; with_reducible refine (nan106 _ _).mono ?_; rintro e w' ⟨rfl, rfl⟩))
        refine ⟨⟨(lo + hi) / 2 + 1, hi, _, by rw [show ((lo : Int) + (hi : Int)) / 2 + 1 = (((lo + hi) / 2 + 1 : Nat) : Int) by omega], rfl, by omega, hin, rfl, fun t ht => ?_, I.out.2⟩, by simp [intOf]; omega⟩
        have := S.out.1 t ((lo + hi) / 2) (by omega) (by omega)
        rw [Y.out.2] at this
        omega
      · go_wp2_with (first | (go_at_call 94; with_reducible refine (less105 _ _ _).mono ?_; rintro e w' ⟨rfl, rfl⟩) | (go_at_call 95; with_reducible refine (nan106 _ _).mono ?_; rintro e w' ⟨rfl, rfl⟩))
        refine ⟨⟨lo, (lo + hi) / 2, _, rfl, by rw [show ((lo : Int) + (hi : Int)) / 2 = (((lo + hi) / 2 : Nat) : Int) by omega], by omega, by omega, rfl, I.out.1, fun t ht htn => ?_⟩, by simp [intOf]; omega⟩
        have := S.out.1 ((lo + hi) / 2) t ht htn
        rw [Y.out.2] at this
        omega
    · obtain rfl : hi = lo := by omega
      obtain ⟨e1, e2⟩ := S.out.2.1 hi hin I.out.1 I.out.2
      have hnn := S.out.2.2
      have E := Lib.hid (And.intro e1 (And.intro e2 hnn))
      clear e1 e2 hnn
      by_cases hn : hi < n
      · have cl : w.cell? ⟨g, hi, none⟩ = some (.int .i64 (zs.getD hi 0)) := hc _ (by omega)
        obtain ⟨y, hy⟩ : ∃ y, zs.getD hi 0 = y := ⟨_, rfl⟩
        rw [hy] at cl
        have Y := Lib.hid (And.intro hc hy)
        clear hc hy
        by_cases hyx : y = x
        · go_wp2_with (first | (go_at_call 94; with_reducible refine (less105 _ _ _).mono ?_; rintro e w' ⟨rfl, rfl⟩) | (go_at_call 95; with_reducible refine (nan106 _ _).mono ?_; rintro e w' ⟨rfl, rfl⟩))
          refine bodyPost_ret (v := .tuple #[.int .i64 (hi : Int), .bool true]) (by simp [results, Tryz.results63, go_sem]) rfl ?_
          refine ⟨?_, _, rfl⟩
          rw [E.out.1, E.out.2.1, Y.out.2, decide_eq_true (show hi < n ∧ y = x from ⟨hn, hyx⟩)]
        · go_wp2_with (first | (go_at_call 94; with_reducible refine (less105 _ _ _).mono ?_; rintro e w' ⟨rfl, rfl⟩) | (go_at_call 95; with_reducible refine (nan106 _ _).mono ?_; rintro e w' ⟨rfl, rfl⟩))
          refine bodyPost_ret (v := .tuple #[.int .i64 (hi : Int), .bool false]) (by simp [results, Tryz.results63, go_sem, hyx]) rfl ?_
          refine ⟨?_, _, rfl⟩
          rw [E.out.1, E.out.2.1, Y.out.2, decide_eq_false (show ¬ (hi < n ∧ y = x) from fun h => hyx h.2)]
      · clear hc
        go_wp2_with (first | (go_at_call 94; with_reducible refine (less105 _ _ _).mono ?_; rintro e w' ⟨rfl, rfl⟩) | (go_at_call 95; with_reducible refine (nan106 _ _).mono ?_; rintro e w' ⟨rfl, rfl⟩))
        refine bodyPost_ret (v := .tuple #[.int .i64 (hi : Int), .bool false]) (by simp [results, Tryz.results63, go_sem]) rfl ?_
        refine ⟨?_, _, rfl⟩
        rw [E.out.1, E.out.2.1, decide_eq_false (show ¬ (hi < n ∧ zs.getD hi 0 = x) from fun h => hn h.1)]
end Go.Proofs.YtbejhkojdiadaaaGreatDoor
