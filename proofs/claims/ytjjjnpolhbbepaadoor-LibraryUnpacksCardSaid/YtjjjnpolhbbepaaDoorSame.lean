/- SameInts and SameCells compare lists. -/
import Derived.Test.YtjjjnpolhbbepaaDoorProg
import Derived.Test.YtjjjnpolhbbepaaDoorBase
import Derived.Test.YtjjjnpolhbbepaaDoorEnts
set_option linter.unusedSimpArgs false
set_option linter.unusedVariables false
namespace Go.Proofs.YtjjjnpolhbbepaaDoor
open Go.RowKit

def agreeTo {α : Type} (xs ys : List α) (k : Nat) : Prop := ∀ i, i < k → xs[i]? = ys[i]?
theorem agreeTo_all {α : Type} {xs ys : List α} (h : xs.length = ys.length) (k : Nat) (hk : xs.length ≤ k) (ha : agreeTo xs ys k) : xs = ys := by
  apply List.ext_getElem? ; intro i
  by_cases hi : i < k
  · exact ha i hi
  · rw [List.getElem?_eq_none (by omega), List.getElem?_eq_none (by omega)]
theorem agreeTo_succ {α : Type} {xs ys : List α} {k : Nat} (ha : agreeTo xs ys k) (h : xs[k]? = ys[k]?) : agreeTo xs ys (k + 1) := by
  intro i hi
  by_cases he : i = k
  · rw [he]; exact h
  · exact ha i (by omega)

theorem getD_eq_iff {α : Type} {xs ys : List α} {d : α} {k : Nat} (h1 : k < xs.length) (h2 : k < ys.length) : xs[k]?.getD d = ys[k]?.getD d ↔ xs[k]? = ys[k]? := by
  rw [List.getElem?_eq_getElem h1, List.getElem?_eq_getElem h2]; simp

theorem Byts.len {w : World} {a : Option Addr} {xs : List Nat} (h : Byts w a xs) : xs.length ≤ 9223372036854775807 := by have := Row.len' h; rw [byts_len] at this; exact this
set_option maxHeartbeats 400000 in
theorem sameInts_calls (a b : Option Addr) (c d : Nat) (xs ys : List Int) (w : World) (ha : Ints w a xs) (hb : Ints w b ys) :
    Calls Tryd.prog 61 #[.slice a xs.length c, .slice b ys.length d] w fun e w' => e = .returned (.bool (decide (xs = ys))) ∧ ∃ q, w' = w.drewN q := by
  have hA := Lib.hid ha
  have hB := Lib.hid hb
  have hmx := ha.len
  clear ha hb
  obtain ⟨n, hn⟩ : ∃ n, n = xs.length := ⟨_, rfl⟩
  obtain ⟨m, hm⟩ : ∃ m, m = ys.length := ⟨_, rfl⟩
  rw [← hn, ← hm]
  rw [← hn] at hmx
  by_cases h : n = m
  · subst h
    have Hn := Lib.hid hn
    have Hm := Lib.hid hm
    clear hn hm
    go_enter Tryd.func61, Tryd.ntmps61
    go_wp2
    go_loopw [5] (fun i wr => ∃ k q : Nat, k ≤ n ∧ i = .int .i64 k ∧ wr = w.drewN q ∧ agreeTo xs ys k) (fun i _ => n - (intOf i).toNat)
    case atStart => exact ⟨0, 0, Nat.zero_le _, rfl, rfl, fun i hi => by omega⟩
    case round =>
      obtain ⟨k, q, hk, rfl, rfl, he⟩ := hrel
      have He := Lib.hid he
      clear he
      by_cases hlt : k < n
      · obtain ⟨a', oa, rfl, _, hca⟩ := hA.out.at_ (k := k) (by have := Hn.out; omega)
        obtain ⟨b', ob, rfl, _, hcb⟩ := hB.out.at_ (k := k) (by have := Hm.out; omega)
        go_wp2
        go_quiet (fail)
        go_wp2
        · rename_i hne
          go_ret
          refine ⟨ret_bool ?_, _, World.drewN_drewN _ _ _⟩
          symm; rw [decide_eq_false_iff_not]
          rintro rfl
          simp at hne
        · rename_i heq
          refine ⟨⟨k + 1, q + nq, by omega, by go_num, rfl, agreeTo_succ He.out ?_⟩, by simp [intOf]; omega⟩
          have h1 : xs[k]?.getD 0 = ys[k]?.getD 0 := by simpa using heq
          exact (getD_eq_iff (by have := Hn.out; omega) (by have := Hm.out; omega)).1 h1
      · go_wp2
        go_ret
        refine ⟨ret_bool ?_, _, rfl⟩
        symm; rw [decide_eq_true_iff]
        exact agreeTo_all (by rw [← Hn.out, ← Hm.out]) k (by have := Hn.out; omega) He.out
  · have hne' : ((n : Int) != m) = true := by simp; omega
    have H := Lib.hid hn
    have H' := Lib.hid hm
    clear hn hm
    go_enter Tryd.func61, Tryd.ntmps61
    go_wp2
    go_ret
    refine ⟨ret_bool ?_, 0, rfl⟩
    symm; rw [decide_eq_false_iff_not]
    rintro rfl
    exact h (by rw [H.out, H'.out])

set_option maxHeartbeats 400000 in
theorem sameByts_calls (a b : Option Addr) (c d : Nat) (xs ys : List Nat) (w : World) (ha : Byts w a xs) (hb : Byts w b ys) :
    Calls Tryd.prog 13 #[.slice a xs.length c, .slice b ys.length d] w fun e w' => e = .returned (.bool (decide (xs = ys))) ∧ ∃ q, w' = w.drewN q := by
  have hA := Lib.hid ha
  have hB := Lib.hid hb
  have hmx := Byts.len ha
  clear ha hb
  obtain ⟨n, hn⟩ : ∃ n, n = xs.length := ⟨_, rfl⟩
  obtain ⟨m, hm⟩ : ∃ m, m = ys.length := ⟨_, rfl⟩
  rw [← hn, ← hm]
  rw [← hn] at hmx
  by_cases h : n = m
  · subst h
    have Hn := Lib.hid hn
    have Hm := Lib.hid hm
    clear hn hm
    go_enter Tryd.func13, Tryd.ntmps13
    go_wp2
    go_loopw [5] (fun i wr => ∃ k q : Nat, k ≤ n ∧ i = .int .i64 k ∧ wr = w.drewN q ∧ agreeTo xs ys k) (fun i _ => n - (intOf i).toNat)
    case atStart => exact ⟨0, 0, Nat.zero_le _, rfl, rfl, fun i hi => by omega⟩
    case round =>
      obtain ⟨k, q, hk, rfl, rfl, he⟩ := hrel
      have He := Lib.hid he
      clear he
      by_cases hlt : k < n
      · obtain ⟨a', oa, rfl, _, hca⟩ := hA.out.at_ (k := k) (by have := Hn.out; omega)
        obtain ⟨b', ob, rfl, _, hcb⟩ := hB.out.at_ (k := k) (by have := Hm.out; omega)
        go_wp2
        go_quiet (fail)
        go_wp2
        · rename_i hne
          go_ret
          refine ⟨ret_bool ?_, _, World.drewN_drewN _ _ _⟩
          symm; rw [decide_eq_false_iff_not]
          rintro rfl
          simp at hne
        · rename_i heq
          refine ⟨⟨k + 1, q + nq, by omega, by go_num, rfl, agreeTo_succ He.out ?_⟩, by simp [intOf]; omega⟩
          have h1 : xs[k]?.getD 0 = ys[k]?.getD 0 := by simp at heq; omega
          exact (getD_eq_iff (by have := Hn.out; omega) (by have := Hm.out; omega)).1 h1
      · go_wp2
        go_ret
        refine ⟨ret_bool ?_, _, rfl⟩
        symm; rw [decide_eq_true_iff]
        exact agreeTo_all (by rw [← Hn.out, ← Hm.out]) k (by have := Hn.out; omega) He.out
  · have hne' : ((n : Int) != m) = true := by simp; omega
    have H := Lib.hid hn
    have H' := Lib.hid hm
    clear hn hm
    go_enter Tryd.func13, Tryd.ntmps13
    go_wp2
    go_ret
    refine ⟨ret_bool ?_, 0, rfl⟩
    symm; rw [decide_eq_false_iff_not]
    rintro rfl
    exact h (by rw [H.out, H'.out])

set_option maxHeartbeats 400000 in
theorem equal_calls (a b : Option Addr) (c d : Nat) (xs ys : List Nat) (w : World) (ha : Byts w a xs) (hb : Byts w b ys) :
    Calls Tryd.prog 35 #[.slice a xs.length c, .slice b ys.length d] w fun e w' => e = .returned (.bool (decide (xs = ys))) ∧ ∃ q, w' = w.drewN q := by
  have hA := Lib.hid ha
  have hB := Lib.hid hb
  have hmx := Byts.len ha
  clear ha hb
  obtain ⟨n, hn⟩ : ∃ n, n = xs.length := ⟨_, rfl⟩
  obtain ⟨m, hm⟩ : ∃ m, m = ys.length := ⟨_, rfl⟩
  rw [← hn, ← hm]
  rw [← hn] at hmx
  by_cases h : n = m
  · subst h
    have Hn := Lib.hid hn
    have Hm := Lib.hid hm
    clear hn hm
    go_enter Tryd.func35, Tryd.ntmps35
    go_wp2
    go_loopw [13] (fun i wr => ∃ k q : Nat, k ≤ n ∧ i = .int .i64 k ∧ wr = w.drewN q ∧ agreeTo xs ys k) (fun i _ => n - (intOf i).toNat)
    case atStart => exact ⟨0, 0, Nat.zero_le _, rfl, rfl, fun i hi => by omega⟩
    case round =>
      obtain ⟨k, q, hk, rfl, rfl, he⟩ := hrel
      have He := Lib.hid he
      clear he
      by_cases hlt : k < n
      · obtain ⟨a', oa, rfl, _, hca⟩ := hA.out.at_ (k := k) (by have := Hn.out; omega)
        obtain ⟨b', ob, rfl, _, hcb⟩ := hB.out.at_ (k := k) (by have := Hm.out; omega)
        go_wp2
        go_quiet (fail)
        go_wp2
        · rename_i hne
          go_ret
          refine ⟨ret_bool ?_, _, World.drewN_drewN _ _ _⟩
          symm; rw [decide_eq_false_iff_not]
          rintro rfl
          simp at hne
        · rename_i heq
          refine ⟨⟨k + 1, q + nq, by omega, by go_num, rfl, agreeTo_succ He.out ?_⟩, by simp [intOf]; omega⟩
          have h1 : xs[k]?.getD 0 = ys[k]?.getD 0 := by simp at heq; omega
          exact (getD_eq_iff (by have := Hn.out; omega) (by have := Hm.out; omega)).1 h1
      · go_wp2
        go_ret
        refine ⟨ret_bool ?_, _, rfl⟩
        symm; rw [decide_eq_true_iff]
        exact agreeTo_all (by rw [← Hn.out, ← Hm.out]) k (by have := Hn.out; omega) He.out
  · have hne' : ((n : Int) != m) = true := by simp; omega
    have H := Lib.hid hn
    have H' := Lib.hid hm
    clear hn hm
    go_enter Tryd.func35, Tryd.ntmps35
    go_wp2
    go_ret
    refine ⟨ret_bool ?_, 0, rfl⟩
    symm; rw [decide_eq_false_iff_not]
    rintro rfl
    exact h (by rw [H.out, H'.out])

set_option maxHeartbeats 400000 in
theorem samePerms_calls (a b : Option Addr) (c d : Nat) (xs ys : List (List Int)) (w : World) (ha : Rows w a xs) (hb : Rows w b ys) :
    Calls Tryd.prog 49 #[.slice a xs.length c, .slice b ys.length d] w fun e w' => e = .returned (.bool (decide (xs = ys))) ∧ ∃ q, w' = w.drewN q := by
  have hA := Lib.hid ha
  have hB := Lib.hid hb
  have hmx := ha.len
  clear ha hb
  obtain ⟨n, hn⟩ : ∃ n, n = xs.length := ⟨_, rfl⟩
  obtain ⟨m, hm⟩ : ∃ m, m = ys.length := ⟨_, rfl⟩
  rw [← hn, ← hm]
  rw [← hn] at hmx
  by_cases h : n = m
  · subst h
    have Hn := Lib.hid hn
    have Hm := Lib.hid hm
    clear hn hm
    go_enter Tryd.func49, Tryd.ntmps49
    go_wp2
    go_loopw [5] (fun i wr => ∃ k q : Nat, k ≤ n ∧ i = .int .i64 k ∧ wr = w.drewN q ∧ agreeTo xs ys k) (fun i _ => n - (intOf i).toNat)
    case atStart => exact ⟨0, 0, Nat.zero_le _, rfl, rfl, fun i hi => by omega⟩
    case round =>
      obtain ⟨k, q, hk, rfl, rfl, he⟩ := hrel
      have He := Lib.hid he
      clear he
      by_cases hlt : k < n
      · obtain ⟨a', oa, a2, ac, rfl, _, hca, hia, _⟩ := hA.out.at_ (k := k) (by have := Hn.out; omega)
        obtain ⟨b', ob, b2, bc, rfl, _, hcb, hib, _⟩ := hB.out.at_ (k := k) (by have := Hm.out; omega)
        have hxl : k < xs.length := by have := Hn.out; omega
        have hyl : k < ys.length := by have := Hm.out; omega
        obtain ⟨x, hx⟩ : ∃ x, xs[k]?.getD [] = x := ⟨_, rfl⟩
        obtain ⟨y, hy⟩ : ∃ y, ys[k]?.getD [] = y := ⟨_, rfl⟩
        rw [hx] at hca hia
        rw [hy] at hcb hib
        have Hc := Lib.hid (fun n => sameInts_calls a2 b2 ac bc x y (w.drewN n) hia hib)
        have Hx := Lib.hid hx
        have Hy := Lib.hid hy
        obtain ⟨r, hr⟩ : ∃ r, decide (x = y) = r := ⟨_, rfl⟩
        rw [hr] at Hc
        have Hr := Lib.hid hr
        clear hia hib hx hy hr hxl hyl
        go_wp2
        go_quiet ((go_at_call 61; exact quiet_add (Hc.out _)))
        go_wp2
        · rename_i hr0
          go_ret
          refine ⟨ret_bool ?_, _, World.drewN_drewN _ _ _⟩
          symm; rw [decide_eq_false_iff_not]
          rintro rfl
          have := Hr.out
          rw [← Hx.out, ← Hy.out] at this
          simp at this hr0
          simp_all
        · rename_i hr0
          refine ⟨⟨k + 1, q + nq, by omega, by go_num, rfl, agreeTo_succ He.out ?_⟩, by simp [intOf]; omega⟩
          have h1 : x = y := by have := Hr.out; simp at hr0; simp_all
          rw [← Hx.out, ← Hy.out] at h1
          exact (getD_eq_iff (by have := Hn.out; omega) (by have := Hm.out; omega)).1 h1
      · go_wp2
        go_ret
        refine ⟨ret_bool ?_, _, rfl⟩
        symm; rw [decide_eq_true_iff]
        exact agreeTo_all (by rw [← Hn.out, ← Hm.out]) k (by have := Hn.out; omega) He.out
  · have hne' : ((n : Int) != m) = true := by simp; omega
    have H := Lib.hid hn
    have H' := Lib.hid hm
    clear hn hm
    go_enter Tryd.func49, Tryd.ntmps49
    go_wp2
    go_ret
    refine ⟨ret_bool ?_, 0, rfl⟩
    symm; rw [decide_eq_false_iff_not]
    rintro rfl
    exact h (by rw [H.out, H'.out])

theorem ent_eq {a b : Plain.Ent} : a = b ↔ a.name = b.name ∧ a.deg = b.deg ∧ a.gens = b.gens := by
  cases a; cases b; simp
open Plain in
theorem name_run (x y : ByteArray) (w : World) : (binOp BinOp.neq 9 (.string x) (.string y)).run Tryd.prog w = .ok (.bool (!(x.toList == y.toList))) w := by
  simp [binOp, Op.stringOp]
set_option maxHeartbeats 1000000 in
theorem sameGroup_calls {w : World} {a b : Option Addr} {c d : Nat} {x y : Int} {gs hs : List (List Int)} (ha : Rows w a gs) (hb : Rows w b hs) :
    Calls Tryd.prog 38 #[.agg #[.int .i64 x, .slice a gs.length c], .agg #[.int .i64 y, .slice b hs.length d]] w fun e w' => e = .returned (.bool (decide (x = y ∧ gs = hs))) ∧ Below w.heap.size w w' := by
  have hk : Below w.heap.size w ((w.alloc (.cells #[.int .i64 x, .slice a gs.length c] 44)).alloc (.cells #[.int .i64 y, .slice b hs.length d] 44)) := ((Below.refl _ _).alloc (Nat.le_refl _) _).alloc (by simp) _
  have hc := samePerms_calls a b c d gs hs _ (ha.below hk) (hb.below hk)
  obtain ⟨n, hn⟩ : ∃ n, gs.length = n := ⟨_, rfl⟩
  obtain ⟨m, hm⟩ : ∃ m, hs.length = m := ⟨_, rfl⟩
  rw [hn, hm] at hc hk ⊢
  obtain ⟨r, hr⟩ : ∃ r, decide (gs = hs) = r := ⟨_, rfl⟩
  have hres : decide (x = y ∧ gs = hs) = (decide (x = y) && r) := by rw [← hr]; simp
  rw [hres]
  rw [hr] at hc
  have Hc := Lib.hid hc
  have HK := Lib.hid hk
  clear hc hn hm hr ha hb hres hk
  by_cases hxy : x = y
  · subst hxy
    go_enter Tryd.func38, Tryd.ntmps38
    go_wp2_with (go_at_call 49; refine Hc.out.mono ?_; rintro e w2 ⟨rfl, q, rfl⟩)
    go_ret
    exact ⟨ret_bool (by simp), below_drewN HK.out _⟩
  · have hxy2 : (x == y) = false := by simp [hxy]
    have hd : (decide (x = y) && r) = false := by simp [hxy]
    rw [hd]
    clear hxy hd
    go_enter Tryd.func38, Tryd.ntmps38
    go_wp2
    go_ret
    exact ⟨rfl, HK.out⟩
theorem str_eq {x y : ByteArray} : (x.toList == y.toList) = decide (x = y) := by
  rw [ByteArray.toList_eq, ByteArray.toList_eq, Bool.eq_iff_iff]
  simp only [beq_iff_eq, decide_eq_true_eq]
  constructor
  · intro h
    cases x; cases y
    simp only at h
    congr 1
    exact Array.toList_inj.1 h
  · rintro rfl; rfl
set_option maxRecDepth 100000 in
set_option maxHeartbeats 2000000 in
theorem same_calls {w : World} {a b : Option Addr} {c d : Nat} {xs ys : List Plain.Ent} {R : Bool} (ha : Ents w a xs) (hb : Ents w b ys) (hR : R = true ↔ xs = ys) :
    Calls Tryd.prog 18 #[.slice a xs.length c, .slice b ys.length d] w fun e w' => e = .returned (.bool R) ∧ Below w.heap.size w w' := by
  have hA := Lib.hid ha
  have hB := Lib.hid hb
  have hmx := ha.len
  clear ha hb
  obtain ⟨n, hn⟩ : ∃ n, n = xs.length := ⟨_, rfl⟩
  obtain ⟨m, hm⟩ : ∃ m, m = ys.length := ⟨_, rfl⟩
  rw [← hn, ← hm]
  rw [← hn] at hmx
  have HR := Lib.hid hR
  clear hR
  by_cases h : n = m
  · subst h
    have Hn := Lib.hid hn
    have Hm := Lib.hid hm
    clear hn hm
    go_enter Tryd.func18, Tryd.ntmps18
    go_wp2
    go_loopw [5] (fun i wr => ∃ k : Nat, k ≤ n ∧ i = .int .i64 k ∧ Below w.heap.size w wr ∧ agreeTo xs ys k) (fun i _ => n - (intOf i).toNat)
    case atStart => exact ⟨0, Nat.zero_le _, rfl, Below.refl _ _, fun i hi => by omega⟩
    case round =>
      obtain ⟨k, hk, rfl, hbl, he⟩ := hrel
      have He := Lib.hid he
      clear he
      by_cases hlt : k < n
      · have hkx : k < xs.length := by have := Hn.out; omega
        have hky : k < ys.length := by have := Hm.out; omega
        obtain ⟨x, hx⟩ : ∃ x, xs[k]? = some x := ⟨_, List.getElem?_eq_getElem hkx⟩
        obtain ⟨y, hy⟩ : ∃ y, ys[k]? = some y := ⟨_, List.getElem?_eq_getElem hky⟩
        obtain ⟨B1, o1, g1, c1, rfl, l1, p1, p2, p3, p4⟩ := hA.out.at_ k x hx
        obtain ⟨B2, o2, g2, c2, rfl, l2, q1, q2, q3, q4⟩ := hB.out.at_ k y hy
        replace p1 := (hbl.cell (p := ⟨B1, o1 + k * 3, none⟩) l1).trans p1
        replace p2 := (hbl.cell (p := ⟨B1, o1 + k * 3 + 1, none⟩) l1).trans p2
        replace p3 := (hbl.cell (p := ⟨B1, o1 + k * 3 + 2, none⟩) l1).trans p3
        replace q1 := (hbl.cell (p := ⟨B2, o2 + k * 3, none⟩) l2).trans q1
        replace q2 := (hbl.cell (p := ⟨B2, o2 + k * 3 + 1, none⟩) l2).trans q2
        replace q3 := (hbl.cell (p := ⟨B2, o2 + k * 3 + 2, none⟩) l2).trans q3
        have hk0 : (0 : Int) ≤ k := by omega
        have hkn : (k : Int) < n := by omega
        by_cases hne : x.name = y.name
        · rw [← hne] at q1
          have hsg := fun q => sameGroup_calls (c := c1) (d := c2) (x := x.deg) (y := y.deg) (p4.below (hbl.trans (below_self_drewN wr q))) (q4.below (hbl.trans (below_self_drewN wr q)))
          obtain ⟨r, hr⟩ : ∃ r, decide (x.deg = y.deg ∧ x.gens = y.gens) = r := ⟨_, rfl⟩
          rw [hr] at hsg
          obtain ⟨n1, hn1⟩ : ∃ n1, x.gens.length = n1 := ⟨_, rfl⟩
          obtain ⟨n2, hn2⟩ : ∃ n2, y.gens.length = n2 := ⟨_, rfl⟩
          rw [hn1] at p3 hsg
          rw [hn2] at q3 hsg
          have HS := Lib.hid hsg
          have HX := Lib.hid (And.intro hx (And.intro hy (And.intro hne (And.intro hr hbl))))
          clear hsg hx hy hne hr hn1 hn2 p4 q4 hbl hkx hky
          go_wp2
          go_still_tail 22, (by kernel_rfl)
          change wpList _ _ _ _ _ (wr.drewN 1)
          cases r with
          | false =>
            go_wp2_with (go_at_call 38; refine (HS.out 1).mono ?_; rintro e w3 ⟨rfl, hb3⟩; have HB3 := Lib.hid hb3; clear hb3)
            go_ret
            refine ⟨ret_bool ?_, (HX.out.2.2.2.2.trans (below_self_drewN wr 1)).trans (HB3.out.mono HX.out.2.2.2.2.size)⟩
            cases R with
            | false => rfl
            | true =>
            have hag := HR.out.1 rfl
            have h1 := congrArg (fun l : List Plain.Ent => l[k]?) hag
            change xs[k]? = ys[k]? at h1
            rw [HX.out.1, HX.out.2.1] at h1
            injection h1 with h1
            subst h1
            have := HX.out.2.2.2.1
            simp at this
          | true =>
            go_wp2_with (go_at_call 38; refine (HS.out 1).mono ?_; rintro e w3 ⟨rfl, hb3⟩; have HB3 := Lib.hid hb3; clear hb3)
            refine ⟨⟨k + 1, by omega, by go_num, (HX.out.2.2.2.2.trans (below_self_drewN wr 1)).trans (HB3.out.mono HX.out.2.2.2.2.size), agreeTo_succ He.out ?_⟩, by simp [intOf]; omega⟩
            have h2 := HX.out.2.2.2.1
            simp only [decide_eq_true_eq] at h2
            rw [HX.out.1, HX.out.2.1, ent_eq.2 ⟨HX.out.2.2.1, h2⟩]
        · have hd : (x.name.toList == y.name.toList) = false := by rw [str_eq]; simp [hne]
          have hd2 : (!(x.name.toList == y.name.toList)) = true := by rw [hd]; rfl
          have hd3 : ¬ x.name.toList = y.name.toList := by simpa using hd
          have HX := Lib.hid (And.intro hx (And.intro hy (And.intro hne hbl)))
          clear hx hy hne p4 q4 hbl hkx hky
          go_wp2
          go_quiet (fail)
          go_wp2
          go_ret
          refine ⟨ret_bool ?_, HX.out.2.2.2.trans (below_self_drewN wr _)⟩
          cases R with
          | false => rfl
          | true =>
          have hag := HR.out.1 rfl
          have h1 := congrArg (fun l : List Plain.Ent => l[k]?) hag
          change xs[k]? = ys[k]? at h1
          rw [HX.out.1, HX.out.2.1] at h1
          injection h1 with h1
          exact absurd (by rw [h1]) HX.out.2.2.1
      · have hkn : k = n := by omega
        have HB := Lib.hid hbl
        clear hbl
        go_wp2
        go_ret
        refine ⟨ret_bool ?_, HB.out⟩
        exact (HR.out.2 (agreeTo_all (by rw [← Hn.out, ← Hm.out]) k (by have := Hn.out; omega) He.out)).symm
  · have hne' : ((n : Int) != m) = true := by simp; omega
    have hRf : R = false := by
      cases R with
      | false => rfl
      | true => exact absurd (by rw [hn, hm, HR.out.1 rfl]) h
    have H := Lib.hid hRf
    clear hn hm hRf
    go_enter Tryd.func18, Tryd.ntmps18
    go_wp2
    go_ret
    exact ⟨ret_bool H.out.symm, Below.refl _ _⟩
end Go.Proofs.YtjjjnpolhbbepaaDoor
