/- What is united is linked: plain. · The reference's Orbits. -/
import Derived.Test.YtlnikgcanimggaaOrbits
import Derived.Test.YtlnikgcanimggaaJoin
import Derived.Test.YtlnikgcanimggaaClosed
import Derived.Test.YtlnikgcanimggaaSplitR
set_option linter.unusedSimpArgs false
set_option linter.unusedVariables false
namespace Go.Proofs.Ytlnikgcanimggaa
open Go.RowKit Go.Sort Go.Shelf Plain

def uniK (r : Nat → Nat) (L : Links) : Nat → Nat := L.foldl (fun r p => uniteR r p.1 p.2) r
theorem uniK_app (r : Nat → Nat) (L M : Links) : uniK r (L ++ M) = uniK (uniK r L) M := by simp [uniK]
theorem uniK_one (r : Nat → Nat) (p q : Nat) : uniK r [(p, q)] = uniteR r p q := rfl
theorem uniK_back {M : Links} : ∀ (L : Links) (r : Nat → Nat), (∀ x ∈ L, x ∈ M) → Back M r → Back M (uniK r L)
  | [], r, _, h => h
  | x :: L, r, hs, h => uniK_back L _ (fun y hy => hs y (by simp [hy])) (h.unite (hs x (by simp)))
theorem uniK_const : ∀ (L L0 : Links) (r : Nat → Nat), Const L0 r → Const (L0 ++ L) (uniK r L)
  | [], L0, r, h => by show Const (L0 ++ []) r; rw [List.append_nil]; exact h
  | x :: L, L0, r, h => by
    have h1 : Const (L0 ++ [x]) (uniteR r x.1 x.2) := (h.unite x.1 x.2).snoc (unite_same r x.1 x.2)
    have := uniK_const L (L0 ++ [x]) _ h1
    rw [List.append_assoc] at this
    exact this
theorem uniK_least (L : Links) : Back L (uniK id L) ∧ Const L (uniK id L) :=
  ⟨uniK_back L id (fun _ h => h) (Back.id L), by have := uniK_const L [] id (fun u v h => by simp at h); simpa using this⟩

def linksOf (x : List Int) (j : Nat) : Links := (List.range j).map fun i => (i, (x[i]?.getD 0).toNat)
theorem linksOf_succ (x : List Int) (j : Nat) : linksOf x (j + 1) = linksOf x j ++ [(j, (x[j]?.getD 0).toNat)] := by
  simp [linksOf, List.range_succ]
def linksG (l : List (List Int)) : Nat → Links
  | 0 => []
  | k + 1 => linksG l k ++ linksOf (l[k]?.getD []) (l[k]?.getD []).length
theorem uniP_K (r : Nat → Nat) (g : List Int) : ∀ j, uniP r g j = uniK r (linksOf g j)
  | 0 => rfl
  | j + 1 => by rw [uniP, uniP_K r g j, linksOf_succ, uniK_app, uniK_one]
theorem uniG_K (l : List (List Int)) : ∀ k, uniG l k = uniK id (linksG l k)
  | 0 => rfl
  | k + 1 => by rw [uniG, uniP_K, uniG_K l k, linksG, uniK_app]
def linksC (x : List Int) (j : Nat) : Links := (List.range j).map fun i => ((x[0]?.getD 0).toNat, (x[i]?.getD 0).toNat)
theorem linksC_succ (x : List Int) (j : Nat) : linksC x (j + 1) = linksC x j ++ [((x[0]?.getD 0).toNat, (x[j]?.getD 0).toNat)] := by
  simp [linksC, List.range_succ]
def linksL (l : List (List Int)) : Nat → Links
  | 0 => []
  | k + 1 => linksL l k ++ linksC (l[k]?.getD []) (l[k]?.getD []).length
theorem uniC_K (r : Nat → Nat) (g : List Int) : ∀ j, uniC r g j = uniK r (linksC g j)
  | 0 => rfl
  | j + 1 => by rw [uniC, uniC_K r g j, linksC_succ, uniK_app, uniK_one]
theorem uniL_K (l : List (List Int)) : ∀ k, uniL l k = uniK id (linksL l k)
  | 0 => rfl
  | k + 1 => by rw [uniL, uniC_K, uniL_K l k, linksL, uniK_app]

/-- Values in the range, each once. -/
def isQ (g : List Int) : Prop := (∀ x ∈ g, 0 ≤ x ∧ x < g.length) ∧ g.Nodup
theorem perm_of_sub : ∀ (l r : List Int), l.Nodup → (∀ x ∈ l, x ∈ r) → l.length = r.length → l.Perm r
  | [], r, _, _, h => by
    have : r = [] := List.eq_nil_of_length_eq_zero h.symm
    rw [this]
  | x :: l, r, hd, hs, hl => by
    have hx : x ∈ r := hs x (by simp)
    have h1 := List.perm_cons_erase hx
    have hd2 := List.nodup_cons.1 hd
    refine (List.Perm.cons x (perm_of_sub l (r.erase x) hd2.2 (fun y hy => ?_) ?_)).trans h1.symm
    · have hne : y ≠ x := fun e => hd2.1 (e ▸ hy)
      exact (List.mem_erase_of_ne hne).2 (hs y (by simp [hy]))
    · rw [List.length_erase_of_mem hx, ← hl]; simp
theorem isP_iff (g : List Int) : isP g = true ↔ isQ g := by
  have hnd : ((List.range g.length).map Int.ofNat).Nodup := by
    unfold List.Nodup
    rw [List.pairwise_map]
    exact List.nodup_range.imp fun h e => h (Int.ofNat_inj.1 e)
  constructor
  · intro h
    have h := of_decide_eq_true h
    have hp : ((List.range g.length).map Int.ofNat).Perm g := by rw [← h]; exact List.mergeSort_perm g _
    refine ⟨fun x hx => ?_, hp.nodup_iff.1 hnd⟩
    obtain ⟨q, hq, rfl⟩ := List.mem_map.1 (hp.mem_iff.2 hx)
    have := List.mem_range.1 hq
    exact ⟨Int.natCast_nonneg q, by show (q : Int) < _; omega⟩
  · intro ⟨h1, h2⟩
    refine decide_eq_true ?_
    have hp : g.Perm ((List.range g.length).map Int.ofNat) := perm_of_sub _ _ h2 (fun x hx => by
      obtain ⟨h3, h4⟩ := h1 x hx
      exact List.mem_map.2 ⟨x.toNat, List.mem_range.2 (by omega), by show ((x.toNat : Nat) : Int) = x; omega⟩) (by simp)
    refine List.Perm.eq_of_pairwise (le := fun a b => decide (a ≤ b) = true) (fun a b _ _ h5 h6 => by simp at h5 h6; omega) ?_ ?_ ((List.mergeSort_perm g _).trans hp)
    · exact List.pairwise_mergeSort (fun a b c h5 h6 => by simp at *; omega) (fun a b => by simp; omega) g
    · rw [List.pairwise_map]
      exact List.pairwise_lt_range.imp fun h => by
        rename_i a b
        show decide ((a : Int) ≤ (b : Int)) = true
        simp; omega
/-- Each list is a permutation of n points. -/
def allQ (n : Nat) (l : List (List Int)) : Prop := ∀ g ∈ l, g.length = n ∧ isQ g
theorem all_iff (n : Nat) (l : List (List Int)) : allP n l ↔ allQ n l :=
  ⟨fun h g hg => ⟨(h g hg).2, (isP_iff g).1 (h g hg).1⟩, fun h g hg => ⟨(isP_iff g).2 (h g hg).2, (h g hg).1⟩⟩
end Go.Proofs.Ytlnikgcanimggaa

namespace Go.Proofs.Ytlnikgcanimggaa
open Go.RowKit Go.Sort Go.Shelf Plain

theorem Try.underlying82 : Try.prog.underlying 82 = some (.slice 83) := by kernel_rfl
/-- What the reference's Orbits says: a partition, or ErrForm. -/
def OrbSayR (n : Nat) (l : List (List Int)) (A : List (List Int)) (E : Int) : Prop :=
  (E = 0 ∧ allQ n l ∧ ∃ f : Nat → Nat, A = collect ((List.range n).map fun i => [(f i : Int)]) ∧ Back (linksG l l.length) f ∧ Const (linksG l l.length) f) ∨ E = 3 ∧ A = [] ∧ ¬ allQ n l
/-- The first j values lie in the range, each once. -/
def okTo (n : Nat) (x : List Int) (j : Nat) : Prop := (∀ i, i < j → ∃ q : Nat, x[i]?.getD 0 = (q : Int) ∧ q < n) ∧ (x.take j).Nodup
theorem okTo.isQ {n : Nat} {x : List Int} (h : okTo n x n) (hl : x.length = n) : isQ x := by
  refine ⟨fun y hy => ?_, by have := h.2; rwa [List.take_of_length_le (by omega)] at this⟩
  obtain ⟨i, hi, rfl⟩ := List.mem_iff_getElem.1 hy
  obtain ⟨q, hq, hqn⟩ := h.1 i (by omega)
  rw [List.getElem?_eq_getElem hi] at hq
  simp only [Option.getD_some] at hq
  rw [hq]; omega
theorem linksG_in {n : Nat} {l : List (List Int)} : ∀ k, allQ n (l.take k) → k ≤ l.length → ∀ u v, (u, v) ∈ linksG l k → u < n ∧ v < n
  | 0, _, _, u, v, h => by simp [linksG] at h
  | k + 1, ha, hk, u, v, h => by
    have htk : l.take (k + 1) = l.take k ++ [l[k]?.getD []] := by
      rw [List.take_succ_eq_append_getElem (by omega), List.getElem?_eq_getElem (by omega)]; rfl
    rw [htk] at ha
    rw [linksG] at h
    rcases List.mem_append.1 h with h1 | h1
    · exact linksG_in k (fun g hg => ha g (by simp [hg])) (by omega) u v h1
    · obtain ⟨hl, hq⟩ := ha (l[k]?.getD []) (by simp)
      obtain ⟨i, hi, e⟩ := List.mem_map.1 h1
      have hi2 := List.mem_range.1 hi
      cases e
      refine ⟨by omega, ?_⟩
      obtain ⟨h3, h4⟩ := hq.1 ((l[k]?.getD [])[u]) (List.getElem_mem _)
      rw [List.getElem?_eq_getElem hi2]
      simp only [Option.getD_some]
      omega
theorem linksG_len {l : List (List Int)} {n : Nat} (h : ∀ g ∈ l, g.length ≤ n) : ∀ k, k ≤ l.length → (linksG l k).length ≤ k * n
  | 0, _ => by simp [linksG]
  | k + 1, hk => by
    have ih := linksG_len h k (by omega)
    have h1 : (l[k]?.getD []).length ≤ n := by
      rw [List.getElem?_eq_getElem (by omega)]
      exact h _ (List.getElem_mem _)
    rw [linksG, List.length_append]
    have h2 : (linksOf (l[k]?.getD []) (l[k]?.getD []).length).length = (l[k]?.getD []).length := by simp [linksOf]
    rw [h2, Nat.succ_mul]; omega

theorem Marks.kept' {w w' : World} {B : Nat} {s : List Int} (h : Marks w B s) {row : Option Nat} (hg : w.grownBy w' row) (hne : row ≠ some B) : Marks w' B s := by
  have hB := h.lt
  obtain ⟨cs, hb, hs, hc⟩ := h
  exact ⟨cs, (hg.block B hB (fun e => hne e.symm)).trans hb, hs, hc⟩
theorem linksG_take (l : List (List Int)) (m : Nat) : ∀ k, k ≤ m → linksG (l.take m) k = linksG l k
  | 0, _ => rfl
  | k + 1, h => by
    have e : (l.take m)[k]? = l[k]? := by rw [List.getElem?_take, if_pos (by omega)]
    rw [linksG, linksG, linksG_take l m k (by omega), e]

set_option maxRecDepth 100000 in
set_option maxHeartbeats 4000000 in
theorem orbitsR_calls (n : Nat) (hn : n ≤ 64) (a : Option Addr) (c : Nat) (l : List (List Int)) (w : World) (ha : Rows w a l) (hl : l.length ≤ 16) :
    Calls Try.prog 44 #[.int .i64 n, .slice a l.length c] w fun e w' => ∃ a c A E, e = .returned (.tuple #[.slice a A.length c, .int .i64 E]) ∧ Rows w' a A ∧ OrbSayR n l A E ∧ Below w.heap.size w w' := by
  obtain ⟨i83, hi83, hz83, hs83, hb83⟩ := info_parts Try.info83
  have I83 := Lib.hid (And.intro hi83 (And.intro hz83 (And.intro hs83 hb83)))
  clear hi83 hz83 hs83 hb83
  obtain ⟨L, hL⟩ : ∃ L, L = l.length := ⟨_, rfl⟩
  obtain ⟨D, hD⟩ : ∃ D, D = w.heap.size := ⟨_, rfl⟩
  rw [← hL] at hl ⊢
  rw [← hD]
  have H0 := Lib.hid (fun (wr : World) (hb : Below D w wr) => (ha.below (by rw [← hD]; exact hb)))
  have HL := Lib.hid hL
  have HD := Lib.hid hD
  have hDl : D ≤ w.heap.size := by omega
  clear hL hD ha
  have hn1 : ¬ ((n : Int) < 0) := by omega
  have hn2 : ¬ ((64 : Int) < (n : Int)) := by omega
  have hl1 : ¬ ((16 : Int) < (L : Int)) := by omega
  go_enter Try.func44, Try.ntmps44
  go_wp2
  go_loopw [6, 7] (fun v i wr => ∃ k : Nat, k ≤ L ∧ i = .int .i64 k ∧ Own2 wr D v (linksG l k) ∧ allQ n (l.take k) ∧ Below D w wr) (fun _ i _ => L - (intOf i).toNat)
  case atStart => exact ⟨0, by omega, rfl, Own2.nil _ _, (fun g hg => by simp at hg), Below.refl _ _⟩
  case round =>
    obtain ⟨k, hk, rfl, ho, hal, hbl⟩ := hrel
    have hDr : D ≤ wr.heap.size := by have := hbl.size; omega
    by_cases hlt : k < L
    · have hltI : decide ((k : Int) < (L : Int)) = true := decide_eq_true (by omega)
      have hkl : k < l.length := by rw [← HL.out]; exact hlt
      obtain ⟨B, hB⟩ : ∃ B, B = wr.heap.size := ⟨_, rfl⟩
      obtain ⟨wa, hwa⟩ : ∃ wa, wa = wr.alloc (.cells (Array.replicate 64 (.bool false)) 72) := ⟨_, rfl⟩
      have hMk : Marks wa B [] := by rw [hwa, hB]; exact Marks.new wr
      have hbl2 : Below D w wa := by rw [hwa]; exact hbl.alloc hDr _
      have ho2 : Own2 wa D u6 (linksG l k) := by rw [hwa]; exact ho.alloc _
      obtain ⟨x, hx⟩ : ∃ x, l[k]?.getD [] = x := ⟨_, rfl⟩
      obtain ⟨g, o, b', cc, rfl, hgw, hcw, hintsw⟩ := (H0.out w (Below.refl _ _)).at_ (k := k) hkl
      rw [hx] at hcw hintsw
      have hcell := hbl.cell (p := ⟨g, o + k, none⟩) (by rw [HD.out]; exact hgw)
      rw [hcw] at hcell
      have hgl : g < wr.heap.size := Nat.lt_of_lt_of_le hgw hbl.size
      have htk : l.take (k + 1) = l.take k ++ [x] := by
        rw [List.take_succ_eq_append_getElem hkl, ← hx, List.getElem?_eq_getElem hkl]; rfl
      have hxm : x ∈ l := by rw [← hx, List.getElem?_eq_getElem hkl]; exact List.getElem_mem _
      obtain ⟨N, hN⟩ : ∃ N, N = x.length := ⟨_, rfl⟩
      rw [← hN] at hcell hcw
      have hNm := hintsw.len
      rw [← hN] at hNm
      have H1 := Lib.hid (And.intro hMk (And.intro hbl2 (And.intro ho2 (And.intro hal (And.intro hx (And.intro hintsw (And.intro htk (And.intro hxm (And.intro hN (And.intro hB hwa))))))))))
      have HC := Lib.hid (And.intro hcw hgw)
      clear hMk hbl2 ho2 hal hx hintsw htk hxm hN ho hbl hgw hcw
      have hBD : D ≤ B := by omega
      by_cases hNn : N = n
      · subst hNn
        clear hB hwa
        go_wp2
        rw [← H1.out.2.2.2.2.2.2.2.2.2.1]
        change Code.wp _ _ _ _ (wr.alloc (.cells (Array.replicate 64 (.bool false)) 72))
        rw [← H1.out.2.2.2.2.2.2.2.2.2.2]
        go_loopw [6, 9] (fun v i wr => ∃ j : Nat, j ≤ N ∧ i = .int .i64 j ∧ Own2 wr D v (linksG l k ++ linksOf x j) ∧ Marks wr B ((x.take j).reverse) ∧ okTo N x j ∧ Below D w wr) (fun _ i _ => N - (intOf i).toNat)
        case atStart => exact ⟨0, by omega, rfl, by rw [show linksOf x 0 = [] from rfl, List.append_nil]; exact H1.out.2.2.1, by simpa using H1.out.1, ⟨fun i h => by omega, by simp⟩, H1.out.2.1⟩
        case round =>
          clear hcell
          obtain ⟨j, hj, rfl, ho, hmk, hok, hbl⟩ := hrel
          have hDr2 : D ≤ wr.heap.size := by have := hbl.size; omega
          by_cases hjl : j < N
          · have hjT : decide (j < N) = true := decide_eq_true hjl
            have hcell := hbl.cell (p := ⟨g, o + k, none⟩) (by rw [HD.out]; exact HC.out.2)
            rw [HC.out.1] at hcell
            obtain ⟨gx, ox, rfl, _, hcx⟩ := (H1.out.2.2.2.2.2.1.below (by rw [← HD.out]; exact hbl)).at_ (k := j) (by rw [← H1.out.2.2.2.2.2.2.2.2.1]; exact hjl)
            have hjx : j < x.length := by rw [← H1.out.2.2.2.2.2.2.2.2.1]; exact hjl
            have htx : x.take (j + 1) = x.take j ++ [x[j]?.getD 0] := by rw [List.take_add_one, List.getElem?_eq_getElem hjx]; rfl
            obtain ⟨p, hp⟩ : ∃ p, x[j]?.getD 0 = p := ⟨_, rfl⟩
            rw [hp] at hcx htx
            have hj0 : (j : Int) < (N : Int) := by omega
            have bad : ¬ (∃ q : Nat, p = (q : Int) ∧ q < N ∧ (q : Int) ∉ x.take j) → ¬ allQ N l := fun h hq => by
              obtain ⟨h1, h2, h3⟩ := hq x H1.out.2.2.2.2.2.2.2.1
              obtain ⟨h4, h5⟩ := h2 (x[j]) (List.getElem_mem _)
              rw [List.getElem?_eq_getElem hjx] at hp
              simp only [Option.getD_some] at hp
              rw [hp] at h4 h5
              refine h ⟨p.toNat, by omega, by omega, fun hm => ?_⟩
              have hd : (x.take (j + 1)).Nodup := h3.sublist (List.take_sublist _ _)
              rw [htx, List.nodup_append] at hd
              exact hd.2.2 _ hm p (by simp) (by omega)
            have Hbd := Lib.hid bad
            have H2 := Lib.hid (And.intro ho (And.intro hmk (And.intro hok (And.intro hbl (And.intro hp htx)))))
            clear ho hmk hok hbl hp htx bad
            by_cases hp0 : p < 0
            · have hp0T : decide (p < 0) = true := decide_eq_true hp0
              have hb := Lib.hid (Hbd.out (fun ⟨q, h1, _⟩ => by omega))
              go_wp2
              go_ret2
              exact ⟨none, 0, [], 3, rfl, Rows.nil' _, .inr ⟨rfl, rfl, hb.out⟩, H2.out.2.2.2.1⟩
            · have hp0T : decide (p < 0) = false := decide_eq_false hp0
              by_cases hpN : (N : Int) ≤ p
              · have hpNT : decide ((N : Int) ≤ p) = true := decide_eq_true hpN
                have hb := Lib.hid (Hbd.out (fun ⟨q, h1, h2, _⟩ => by omega))
                go_wp2
                go_ret2
                exact ⟨none, 0, [], 3, rfl, Rows.nil' _, .inr ⟨rfl, rfl, hb.out⟩, H2.out.2.2.2.1⟩
              · have hpNT : decide ((N : Int) ≤ p) = false := decide_eq_false hpN
                obtain ⟨q, rfl⟩ := Int.eq_ofNat_of_zero_le (by omega : 0 ≤ p)
                have hq64 : q < 64 := by omega
                have hqN : q < N := by omega
                have hqI : (q : Int) < 64 := by omega
                have hcm := H2.out.2.1.cell q hq64
                have hfm := H2.out.2.1.frozen q
                by_cases hsn : (q : Int) ∈ (x.take j).reverse
                · rw [decide_eq_true hsn] at hcm
                  have hb := Lib.hid (Hbd.out (fun ⟨q', h1, h2, h3⟩ => by
                    have : q' = q := by omega
                    subst this
                    exact h3 (List.mem_reverse.1 hsn)))
                  clear hsn
                  go_wp2
                  go_ret2
                  exact ⟨none, 0, [], 3, rfl, Rows.nil' _, .inr ⟨rfl, rfl, hb.out⟩, H2.out.2.2.2.1⟩
                · rw [decide_eq_false hsn] at hcm
                  have hput := H2.out.2.1.put q hq64
                  have hBl := H2.out.2.1.lt
                  have hlk : (linksG l k ++ linksOf x j).length < 1000000 := by
                    rw [List.length_append]
                    have h1 := linksG_len (l := l.take k) (n := N) (fun g hg => Nat.le_of_eq (H1.out.2.2.2.1 g hg).1) k (by rw [List.length_take]; omega)
                    have h2 : linksG (l.take k) k = linksG l k := linksG_take l k k (Nat.le_refl k)
                    rw [h2] at h1
                    have h3 : (linksOf x j).length = j := by simp [linksOf]
                    have h4 : k * N ≤ 16 * 64 := Nat.mul_le_mul (by omega) (by omega)
                    omega
                  obtain ⟨wb, hwb⟩ : ∃ wb, wb = wr.setCell ⟨B, q, none⟩ (.bool true) := ⟨_, rfl⟩
                  have hgb : wr.grownBy wb (some B) := by rw [hwb]; exact grown_put q _
                  rw [← hwb] at hput
                  have hbb : Below D w wb := by rw [hwb]; exact H2.out.2.2.2.1.setCell hBD _
                  have hob : Own2 wb D u6 (linksG l k ++ linksOf x j) := H2.out.1.kept hgb (by
                    rcases H2.out.1.blk with e | ⟨g9, cur9, e, hB9, hl9, hh9⟩
                    · exact .inl e
                    · right; rw [e]; intro e2
                      have e3 : g9 = B := Option.some.inj e2
                      obtain ⟨cs8, hb8, _⟩ := H2.out.2.1
                      rw [e3, hb8] at hh9
                      injection hh9 with hh9
                      injection hh9 with _ hh9
                      exact absurd hh9 (by decide))
                  have hmem : ¬ (q : Int) ∈ x.take j := fun h => hsn (List.mem_reverse.2 h)
                  have hok2 : okTo N x (j + 1) := by
                    refine ⟨fun i hi => ?_, ?_⟩
                    · by_cases e : i = j
                      · rw [e]; exact ⟨q, H2.out.2.2.2.2.1, hqN⟩
                      · exact H2.out.2.2.1.1 i (by omega)
                    · rw [H2.out.2.2.2.2.2, List.nodup_append]
                      exact ⟨H2.out.2.2.1.2, by simp, fun y hy z hz => by
                        rw [List.mem_singleton.1 hz]; intro e; rw [e] at hy; exact hmem hy⟩
                  have hwbs : wb.heap.size = wr.heap.size := by rw [hwb]; simp [World.setCell]
                  have hDb : D ≤ wb.heap.size := by omega
                  rw [hwb] at hput hbb hob hDb
                  have H3 := Lib.hid (And.intro hput (And.intro hbb (And.intro hob hok2)))
                  have Hlk := Lib.hid hlk
                  have Hhq := Lib.hid H2.out.2.2.2.2.1
                  clear hput hbb hob hok2 hgb hmem hsn hlk hwbs hwb
                  go_wp2_with (at_builtin; refine app2 (w := wr.setCell ⟨B, q, none⟩ (.bool true)) rfl (.tmp 59) (.tmp 63) 82 rfl i83 (.agg #[.int .i64 0, .int .i64 0]) Try.underlying82 I83.out.1 I83.out.2.1 I83.out.2.2.1 I83.out.2.2.2 rfl D j q u6 (linksG l k ++ linksOf x j) rfl H3.out.2.2.1 (by simp [go_sem, Act.eval]) Hlk.out hDb ?_; intro v' w' h2 h3; have H9 := Lib.hid (And.intro h2 h3); clear h2 h3)
                  obtain ⟨h2, h3⟩ := H9.out
                  refine ⟨⟨j + 1, by omega, by go_num, ?_, ?_, H3.out.2.2.2, ?_⟩, by simp [intOf]; omega⟩
                  · rw [linksOf_succ, ← List.append_assoc, Hhq.out]; exact h2
                  · rw [H2.out.2.2.2.2.2, List.reverse_append]
                    refine Marks.kept' H3.out.1 h3 (fun e9 => ?_)
                    rcases H3.out.2.2.1.blk with e | ⟨g', cur9, e, hB, _, hh9⟩
                    · rw [e] at e9; cases e9
                    · rw [e] at e9
                      have e3 : g' = B := Option.some.inj e9
                      obtain ⟨cs8, hb8, _⟩ := H3.out.1
                      rw [e3, hb8] at hh9
                      injection hh9 with hh9
                      injection hh9 with _ hh9
                      exact absurd hh9 (by decide)
                  · refine H3.out.2.1.grown h3 hDb (fun k hk => ?_)
                    rcases H3.out.2.2.1.blk with e | ⟨g', _, e, hB, _⟩
                    · rw [e] at hk; cases hk
                    · rw [e] at hk; cases hk; exact hB
          · have hjT : decide (j < N) = false := decide_eq_false hjl
            obtain rfl : j = N := by omega
            have hal2 : allQ j (l.take (k + 1)) := fun g hg => by
              rw [H1.out.2.2.2.2.2.2.1] at hg
              rcases List.mem_append.1 hg with h | h
              · exact H1.out.2.2.2.1 g h
              · rw [List.mem_singleton.1 h]
                exact ⟨H1.out.2.2.2.2.2.2.2.2.1.symm, hok.isQ H1.out.2.2.2.2.2.2.2.2.1.symm⟩
            have hlg : linksG l (k + 1) = linksG l k ++ linksOf x j := by rw [linksG, H1.out.2.2.2.2.1, ← H1.out.2.2.2.2.2.2.2.2.1]
            rw [← hlg] at ho
            have H3 := Lib.hid (And.intro ho (And.intro hal2 hbl))
            clear ho hal2 hbl hlg hok hmk
            go_wp2
            exact ⟨⟨k + 1, by omega, by go_num, H3.out⟩, by simp [intOf]; omega⟩
      · have hNnI : ((N : Int) == (n : Int)) = false := by simp; omega
        have hbad : ¬ allQ n l := fun h => hNn (by rw [H1.out.2.2.2.2.2.2.2.2.1]; exact (h x H1.out.2.2.2.2.2.2.2.1).1)
        have Hb := Lib.hid hbad
        clear hB hwa hbad
        go_wp2
        go_ret2
        refine ⟨none, 0, [], 3, rfl, Rows.nil' _, .inr ⟨rfl, rfl, Hb.out⟩, ?_⟩
        have h := H1.out.2.1
        rw [H1.out.2.2.2.2.2.2.2.2.2.2] at h
        exact h
    · have hltI : decide ((k : Int) < (L : Int)) = false := decide_eq_false (by omega)
      obtain rfl : k = L := by omega
      rw [List.take_of_length_le (by rw [← HL.out]; exact Nat.le_refl _)] at hal
      have hlk : (linksG l k).length ≤ 1000000 := by
        have h1 := linksG_len (l := l) (n := n) (fun g hg => Nat.le_of_eq (hal g hg).1) k (by rw [← HL.out]; exact Nat.le_refl _)
        have h4 : k * n ≤ 16 * 64 := Nat.mul_le_mul hl hn
        omega
      obtain ⟨a', c', rfl, hln⟩ := ho.lnk hlk
      have hcl := closed_calls n hn a' c' (linksG l k) wr hln (linksG_in k (by rw [List.take_of_length_le (by rw [← HL.out]; exact Nat.le_refl _)]; exact hal) (by rw [← HL.out]; exact Nat.le_refl _))
      obtain ⟨M, hM⟩ : ∃ M, M = (linksG l k).length := ⟨_, rfl⟩
      rw [← hM] at hcl ⊢
      have Hc := Lib.hid (And.intro hcl (And.intro hal hbl))
      clear hcl hal hbl ho hln hM hlk
      go_wp2_with fail
      refine Hc.out.1.mono ?_
      rintro e w2 ⟨a2, c2, f, rfl, hbk, hco, hr2, hb2⟩
      have H2 := Lib.hid (And.intro hbk (And.intro hco (And.intro hr2 (Hc.out.2.2.trans (hb2.mono hDr)))))
      clear hbk hco hr2 hb2
      go_wp2
      go_ret2
      exact ⟨a2, c2, _, 0, rfl, H2.out.2.2.1, .inl ⟨rfl, Hc.out.2.1, f, rfl, by rw [← HL.out]; exact H2.out.1, by rw [← HL.out]; exact H2.out.2.1⟩, H2.out.2.2.2⟩
end Go.Proofs.Ytlnikgcanimggaa
