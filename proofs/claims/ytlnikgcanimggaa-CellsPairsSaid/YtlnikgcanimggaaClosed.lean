/- The least points of what is linked: plain. · closed: the least points of what is linked. · A row of links of the call's own; append of one link. -/
import Derived.Test.YtlnikgcanimggaaForest
import Derived.Test.YtlnikgcanimggaaOfs
set_option linter.unusedSimpArgs false
set_option linter.unusedVariables false
namespace Go.Proofs.Ytlnikgcanimggaa.Plain
abbrev Links := List (Nat × Nat)
/-- f is constant on what is linked. -/
def Const (L : Links) (f : Nat → Nat) : Prop := ∀ u v, (u, v) ∈ L → f u = f v
/-- f leads to a linked point that is not greater. -/
structure Back (L : Links) (f : Nat → Nat) : Prop where
  back : ∀ g, Const L g → ∀ x, g (f x) = g x
  le : ∀ x, f x ≤ x
theorem least_eq {L : Links} {f g : Nat → Nat} (hf : Back L f) (cf : Const L f) (hg : Back L g) (cg : Const L g) : f = g := by
  funext x
  have h1 := hf.back g cg x
  have h2 := hg.back f cf x
  have h3 := hf.le (g x)
  have h4 := hg.le (f x)
  omega
theorem Back.id (L : Links) : Back L id := ⟨fun g _ x => rfl, fun x => Nat.le_refl _⟩
theorem uniteR_eq {r : Nat → Nat} {p q : Nat} (x : Nat) : uniteR r p q x = if r x = r p ∨ r x = r q then min (r p) (r q) else r x := by
  unfold uniteR
  by_cases h : r x = max (r p) (r q)
  · rw [if_pos h, if_pos (by omega)]
  · rw [if_neg h]
    by_cases h2 : r x = r p ∨ r x = r q
    · rw [if_pos h2]; omega
    · rw [if_neg h2]
theorem Back.unite {L : Links} {r : Nat → Nat} (h : Back L r) {p q : Nat} (hm : (p, q) ∈ L) : Back L (uniteR r p q) := by
  refine ⟨fun g hg x => ?_, fun x => ?_⟩
  · have e1 := h.back g hg p
    have e2 := h.back g hg q
    have e3 := h.back g hg x
    have e4 := hg p q hm
    unfold uniteR
    by_cases hx : r x = max (r p) (r q)
    · rw [if_pos hx]
      rw [← e3, hx]
      rcases Nat.le_total (r p) (r q) with hl | hl
      · rw [Nat.min_eq_left hl, Nat.max_eq_right hl, e1, e2, e4]
      · rw [Nat.min_eq_right hl, Nat.max_eq_left hl, e1, e2, e4]
    · rw [if_neg hx]; exact e3
  · unfold uniteR
    have := h.le x
    split <;> omega
theorem Const.unite {L : Links} {r : Nat → Nat} (h : Const L r) (p q : Nat) : Const L (uniteR r p q) := fun u v huv => by
  unfold uniteR; rw [h u v huv]
theorem unite_same (r : Nat → Nat) (p q : Nat) : uniteR r p q p = uniteR r p q q := by
  rw [uniteR_eq, uniteR_eq, if_pos (.inl rfl), if_pos (.inr rfl)]
theorem Const.more {L L' : Links} {f : Nat → Nat} (h : Const L f) (hs : ∀ x ∈ L', x ∈ L) : Const L' f := fun u v huv => h u v (hs _ huv)
theorem Const.snoc {L : Links} {f : Nat → Nat} (h : Const L f) {p q : Nat} (hp : f p = f q) : Const (L ++ [(p, q)]) f := fun u v huv => by
  rcases List.mem_append.1 huv with h1 | h1
  · exact h u v h1
  · have := List.mem_singleton.1 h1
    cases this; exact hp
theorem Back.more {L L' : Links} {f : Nat → Nat} (h : Back L f) (hs : ∀ x ∈ L, x ∈ L') : Back L' f := ⟨fun g hg => h.back g (hg.more hs), h.le⟩
/-- The sum of the first n values. -/
def sumF (f : Nat → Nat) : Nat → Nat
  | 0 => 0
  | n + 1 => sumF f n + f n
theorem sumF_le {f g : Nat → Nat} {n : Nat} (h : ∀ k, k < n → f k ≤ g k) : sumF f n ≤ sumF g n := by
  induction n with
  | zero => exact Nat.le_refl _
  | succ n ih => have h1 := ih (fun k hk => h k (by omega)); have h2 := h n (by omega); simp only [sumF]; omega
theorem sumF_lt {f g : Nat → Nat} {n : Nat} (h : ∀ k, k < n → f k ≤ g k) {j : Nat} (hj : j < n) (hlt : f j < g j) : sumF f n < sumF g n := by
  induction n with
  | zero => omega
  | succ n ih =>
    simp only [sumF]
    by_cases e : j = n
    · subst e
      have h1 := sumF_le (fun k hk => h k (by omega) : ∀ k, k < j → f k ≤ g k)
      omega
    · have h1 := ih (fun k hk => h k (by omega)) (by omega)
      have h2 := h n (by omega)
      omega
theorem sumF_congr {f g : Nat → Nat} {n : Nat} (h : ∀ k, k < n → f k = g k) : sumF f n = sumF g n :=
  Nat.le_antisymm (sumF_le fun k hk => Nat.le_of_eq (h k hk)) (sumF_le fun k hk => Nat.le_of_eq (h k hk).symm)
theorem unite_le {r : Nat → Nat} (p q x : Nat) : uniteR r p q x ≤ r x := by unfold uniteR; split <;> omega
theorem sum_unite {r : Nat → Nat} {n p q : Nat} (hp : p < n) (hq : q < n) (hne : r p ≠ r q) : sumF (uniteR r p q) n < sumF r n := by
  rcases Nat.lt_or_gt_of_ne hne with h | h
  · exact sumF_lt (fun k _ => unite_le p q k) hq (by rw [uniteR_eq, if_pos (.inr rfl)]; omega)
  · exact sumF_lt (fun k _ => unite_le p q k) hp (by rw [uniteR_eq, if_pos (.inl rfl)]; omega)
end Go.Proofs.Ytlnikgcanimggaa.Plain

namespace Go.Proofs.Ytlnikgcanimggaa
open Go.RowKit Go.Sort Go.Shelf Plain

/-- A row of links. -/
def Lnk (w : World) (a : Option Addr) (L : Links) : Prop :=
  L.length ≤ 1000000 ∧ ∀ (i u v : Nat), L[i]? = some (u, v) → ∃ b, a = some ⟨b, 0, none⟩ ∧ b < w.heap.size ∧ w.cell? ⟨b, i * 2, none⟩ = some (.int .i64 (u : Int)) ∧ w.cell? ⟨b, i * 2 + 1, none⟩ = some (.int .i64 (v : Int))
theorem Lnk.below {w w' : World} {a : Option Addr} {L : Links} (h : Lnk w a L) (hb : Below w.heap.size w w') : Lnk w' a L :=
  ⟨h.1, fun i u v hx => by
    obtain ⟨b, e, hl, h1, h2⟩ := h.2 i u v hx
    exact ⟨b, e, Nat.lt_of_lt_of_le hl hb.size, by rw [hb.cell hl]; exact h1, by rw [hb.cell hl]; exact h2⟩⟩
/-- The values of the first n points. -/
def lowRow (n : Nat) (f : Nat → Nat) : List Value := nums ((List.range n).map f)
theorem lowRow_len (n : Nat) (f : Nat → Nat) : (lowRow n f).length = n := by simp [lowRow, nums]
theorem lowRow_get {n k : Nat} (f : Nat → Nat) (h : k < n) : (lowRow n f)[k]? = some (.int .i64 (f k : Int)) := by
  simp [lowRow, nums, h]
theorem lowRow_congr {n : Nat} {f g : Nat → Nat} (h : ∀ k, k < n → f k = g k) : lowRow n f = lowRow n g := by
  unfold lowRow
  congr 1
  exact List.map_congr_left fun k hk => h k (List.mem_range.1 hk)
theorem lowRow_set {n k : Nat} (f : Nat → Nat) (v : Nat) (h : k < n) : (lowRow n f).set k (.int .i64 (v : Int)) = lowRow n (setF f k v) := by
  apply List.ext_getElem?
  intro j
  by_cases hj : j < n
  · rw [List.getElem?_set, lowRow_len]
    by_cases e : k = j
    · subst e; rw [if_pos rfl, if_pos h, lowRow_get _ h, setF, if_pos rfl]
    · rw [if_neg e, lowRow_get _ hj, lowRow_get _ hj, setF, if_neg (fun e2 => e e2.symm)]
  · rw [List.getElem?_eq_none (by rw [List.length_set, lowRow_len]; omega), List.getElem?_eq_none (by rw [lowRow_len]; omega)]
def sumW (w : World) (G n : Nat) : Nat := sumF (fun k => (intOf ((w.cell? ⟨G, k, none⟩).getD undef)).toNat) n
abbrev LowAt (w : World) (D G n : Nat) (f : Nat → Nat) : Prop := Own w D (.slice (some ⟨G, 0, none⟩) n n) 3 (lowRow n f)
theorem LowAt.cell {w : World} {D G n : Nat} {f : Nat → Nat} (h : LowAt w D G n f) {k : Nat} (hk : k < n) : w.cell? ⟨G, k, none⟩ = some (.int .i64 (f k : Int)) := by
  rw [Own.cell h k (by rw [lowRow_len]; exact hk), lowRow_get f hk]
theorem LowAt.sum {w : World} {D G n : Nat} {f : Nat → Nat} (h : LowAt w D G n f) : sumW w G n = sumF f n :=
  sumF_congr fun k hk => by rw [LowAt.cell h hk]; simp [intOf]
theorem LowAt.put {w : World} {D G n : Nat} {f : Nat → Nat} (h : LowAt w D G n f) {k : Nat} (hk : k < n) (v : Nat) : LowAt (w.setCell ⟨G, k, none⟩ (.int .i64 (v : Int))) D G n (setF f k v) := by
  have := Own.put h k (.int .i64 (v : Int))
  rw [lowRow_set f v hk] at this
  exact this
def boolN : Value → Nat
  | .bool true => 1
  | _ => 0
/-- uniteR, of the first k points. -/
def partF (f : Nat → Nat) (u v k : Nat) : Nat → Nat := fun x => if x < k then uniteR f u v x else f x
theorem partF_zero (f : Nat → Nat) (u v : Nat) : partF f u v 0 = f := by funext x; simp [partF]
theorem partF_at (f : Nat → Nat) (u v k : Nat) : partF f u v k k = f k := by simp [partF]
theorem partF_skip {f : Nat → Nat} {u v k : Nat} (h : ¬ (f k = f u ∨ f k = f v)) : partF f u v (k + 1) = partF f u v k := by
  funext x
  unfold partF
  by_cases e : x = k
  · subst e; rw [if_pos (by omega), if_neg (by omega), uniteR_eq, if_neg h]
  · by_cases e2 : x < k
    · rw [if_pos (by omega), if_pos e2]
    · rw [if_neg (by omega), if_neg e2]
theorem partF_set {f : Nat → Nat} {u v k : Nat} (h : f k = f u ∨ f k = f v) : partF f u v (k + 1) = setF (partF f u v k) k (min (f u) (f v)) := by
  funext x
  by_cases e : x = k
  · subst e
    have e1 : partF f u v (x + 1) x = min (f u) (f v) := by unfold partF; rw [if_pos (by omega), uniteR_eq, if_pos h]
    rw [e1, setF, if_pos rfl]
  · rw [setF, if_neg e]
    unfold partF
    by_cases e2 : x < k
    · rw [if_pos (by omega), if_pos e2]
    · rw [if_neg (by omega), if_neg e2]

set_option maxRecDepth 100000 in
set_option maxHeartbeats 4000000 in
theorem closed_calls (n : Nat) (hn : n ≤ 64) (a : Option Addr) (c : Nat) (L : Links) (w : World) (hL : Lnk w a L) (hin : ∀ u v, (u, v) ∈ L → u < n ∧ v < n) :
    Calls Try.prog 75 #[.int .i64 n, .slice a L.length c] w fun e w' => ∃ (a' : Option Addr) (c' : Nat) (f : Nat → Nat), e = .returned (.slice a' (collect ((List.range n).map fun i => [(f i : Int)])).length c') ∧ Back L f ∧ Const L f ∧ Rows w' a' (collect ((List.range n).map fun i => [(f i : Int)])) ∧ Below w.heap.size w w' := by
  obtain ⟨i3, hi3, hz3, hs3, hb3⟩ := info_parts Try.info3
  obtain ⟨i29, hi29, hz29, hs29, hb29⟩ := info_parts Try.info29
  have I3 := Lib.hid (And.intro hi3 (And.intro hz3 (And.intro hs3 hb3)))
  have I29 := Lib.hid (And.intro hi29 (And.intro hz29 (And.intro hs29 hb29)))
  clear hi3 hz3 hs3 hb3 hi29 hz29 hs29 hb29
  have hm := hL.1
  obtain ⟨M, hM⟩ : ∃ M, M = L.length := ⟨_, rfl⟩
  obtain ⟨D, hD⟩ : ∃ D, D = w.heap.size := ⟨_, rfl⟩
  rw [← hM] at hm ⊢
  rw [← hD]
  have H0 := Lib.hid (And.intro (fun (wr : World) (hb : Below D w wr) => (show Lnk wr a L from hL.below (by rw [← hD]; exact hb))) hin)
  have HM := Lib.hid hM
  have HD := Lib.hid hD
  have hDl : D ≤ w.heap.size := by omega
  clear hL hin hM hD
  go_enter Try.func75, Try.ntmps75
  go_wp2_with (at_make; refine mk1 rfl _ _ 29 3 rfl i3 (.int .i64 0) 8 Try.underlying29 I3.out.1 I3.out.2.1 I3.out.2.2.1 I3.out.2.2.2 rfl (by omega) D n rfl rfl (by omega) hDl ?_; intro w1 hd hg hz1; have H1 := Lib.hid (And.intro hd (And.intro hg hz1)); clear hd hg hz1)
  obtain ⟨G, hG⟩ : ∃ G, G = w.heap.size := ⟨_, rfl⟩
  rw [← hG] at H1 ⊢
  have hG1 : D ≤ G := by omega
  have hlow : LowAt w1 D G n (firstF 0) := by
    have h := H1.out.1
    have e : List.replicate n (Value.int .i64 0) = lowRow n (firstF 0) := by
      apply List.ext_getElem?
      intro j
      by_cases hj : j < n
      · rw [lowRow_get _ hj, List.getElem?_replicate, if_pos hj]; simp [firstF]
      · rw [List.getElem?_eq_none (by simp; omega), List.getElem?_eq_none (by rw [lowRow_len]; omega)]
    unfold LowAt; rw [← e]; exact h
  have hB1 : Below D w w1 := (Below.refl D w).grown H1.out.2.1 hDl (fun k hk => by cases hk)
  have H2 := Lib.hid (And.intro hlow hB1)
  have HG := Lib.hid hG
  clear hlow hB1 H1 hG
  go_wp2
  go_loopw [6] (fun i wr => ∃ k : Nat, k ≤ n ∧ i = .int .i64 k ∧ LowAt wr D G n (firstF k) ∧ Below D w wr) (fun i _ => n - (intOf i).toNat)
  case atStart => exact ⟨0, by omega, rfl, H2.out⟩
  case round =>
    clear H2
    obtain ⟨k, hk, rfl, ho, hbl⟩ := hrel
    by_cases hlt : k < n
    · have hc := LowAt.cell ho hlt
      have hf := ho.frozen k
      have hput := LowAt.put ho hlt k
      rw [firstF_set] at hput
      have hb2 := hbl.setCell (p := ⟨G, k, none⟩) hG1 (.int .i64 (k : Int))
      have H := Lib.hid (And.intro hput hb2)
      clear ho hbl hput hb2
      go_wp2
      exact ⟨⟨k + 1, by omega, by go_num, H.out⟩, by simp [intOf]; omega⟩
    · obtain rfl : k = n := by omega
      have hid : LowAt wr D G k id := by
        have : lowRow k (firstF k) = lowRow k id := lowRow_congr fun j hj => by simp [firstF, hj]
        unfold LowAt; rw [← this]; exact ho
      have H := Lib.hid (And.intro hid hbl)
      clear hid ho hbl
      obtain ⟨w2, rfl⟩ : ∃ w2, w2 = wr := ⟨_, rfl⟩
      go_wp2
      go_loopw [7] (fun u7 wr => ∃ (b : Bool) (f : Nat → Nat), u7 = .bool b ∧ LowAt wr D G k f ∧ Back L f ∧ (b = false → Const L f) ∧ Below D w wr) (fun u7 wr => 2 * sumW wr G k + boolN u7)
      case atStart => exact ⟨true, id, rfl, H.out.1, Back.id L, (fun h => by cases h), H.out.2⟩
      case round =>
        clear H
        obtain ⟨b, f, rfl, ho, hbk, hco, hbl⟩ := hrel
        cases b with
        | true =>
          have H3 := Lib.hid (And.intro ho (And.intro hbk hbl))
          have hsum := LowAt.sum ho
          have Hsum := Lib.hid hsum
          clear ho hbk hco hbl hsum
          obtain ⟨w3, rfl⟩ : ∃ w3, w3 = wr := ⟨_, rfl⟩
          go_wp2
          go_loopw [7, 8] (fun u7 i wr => ∃ (b : Bool) (j : Nat) (f' : Nat → Nat), j ≤ M ∧ u7 = .bool b ∧ i = .int .i64 j ∧ LowAt wr D G k f' ∧ Back L f' ∧ (b = false → f' = f ∧ Const (L.take j) f) ∧ (b = true → sumF f' k < sumF f k) ∧ Below D w wr) (fun _ i _ => M - (intOf i).toNat)
          case atStart => exact ⟨false, 0, f, by omega, rfl, rfl, H3.out.1, H3.out.2.1, (fun _ => ⟨rfl, fun u v h => by simp at h⟩), (fun h => by cases h), H3.out.2.2⟩
          case round =>
            clear H3
            obtain ⟨b, j, f', hj, rfl, rfl, ho, hbk, hbf, hbt, hbl⟩ := hrel
            by_cases hlt2 : j < M
            · have hlt2I : decide ((j : Int) < (M : Int)) = true := decide_eq_true (by omega)
              have hjl : j < L.length := by rw [← HM.out]; exact hlt2
              obtain ⟨⟨u, v⟩, huv⟩ : ∃ x, x = L[j] := ⟨_, rfl⟩
              have hget : L[j]? = some (u, v) := by rw [List.getElem?_eq_getElem hjl, ← huv]
              have hmem : (u, v) ∈ L := by rw [huv]; exact List.getElem_mem _
              obtain ⟨bl, rfl, hbll, hc1, hc2⟩ := (H0.out.1 wr hbl).2 j u v hget
              obtain ⟨hu, hv⟩ := H0.out.2 u v hmem
              have hc3 := LowAt.cell ho hu
              have hc4 := LowAt.cell ho hv
              have htk : L.take (j + 1) = L.take j ++ [(u, v)] := by rw [List.take_succ_eq_append_getElem hjl, ← huv]
              have hw1 : IntKind.i64.wrap ((j : Int) * 2) = (j : Int) * 2 := IntWalk.i64_in _ (by omega)
              have hu0 : (u : Int) < (k : Int) := by omega
              have hv0 : (v : Int) < (k : Int) := by omega
              have H := Lib.hid (And.intro ho (And.intro hbk (And.intro hbf (And.intro hbt (And.intro hbl (And.intro hmem htk))))))
              obtain ⟨p, hp⟩ : ∃ p, p = f' u := ⟨_, rfl⟩
              obtain ⟨q, hq⟩ : ∃ p, p = f' v := ⟨_, rfl⟩
              rw [← hp] at hc3
              rw [← hq] at hc4
              have HP := Lib.hid (And.intro hp hq)
              have hget1 : Hid (L[j]? = some (u, v)) := Lib.hid hget
              clear ho hbk hbf hbt hbl hmem htk hp hq huv hget hget1
              go_wp2
              go_quiet (fail)
              by_cases hpq : p = q
              · subst hpq
                go_wp2
                refine ⟨⟨b, j + 1, f', by omega, rfl, by go_num, H.out.1.drewN _, H.out.2.1, fun hb => ?_, H.out.2.2.2.1, below_drewN H.out.2.2.2.2.1 _⟩, by simp [intOf]; omega⟩
                obtain ⟨e1, e2⟩ := H.out.2.2.1 hb
                refine ⟨e1, ?_⟩
                rw [H.out.2.2.2.2.2.2]
                exact e2.snoc (by rw [← e1, ← HP.out.1, ← HP.out.2])
              · have hpqI : ((p : Int) == (q : Int)) = false := by simp; omega
                generalize hwq : wr.drewN _ = w4
                have H4 := Lib.hid (show LowAt w4 D G k f' ∧ Below D w w4 by rw [← hwq]; exact ⟨H.out.1.drewN _, below_drewN H.out.2.2.2.2.1 _⟩)
                clear hwq hc1 hc2 hc3 hc4
                have hpqN := hpq
                clear hpq
                go_wp2
                go_loopw [11] (fun i wr => ∃ x : Nat, x ≤ k ∧ i = .int .i64 x ∧ LowAt wr D G k (partF f' u v x) ∧ Below D w wr) (fun i _ => k - (intOf i).toNat)
                case atStart => exact ⟨0, by omega, rfl, by rw [partF_zero]; exact H4.out.1, H4.out.2⟩
                case round =>
                  clear H4
                  obtain ⟨x, hx, rfl, ho, hbl⟩ := hrel
                  by_cases hxk : x < k
                  · have hxkT : decide (x < k) = true := decide_eq_true hxk
                    have hx0 : (x : Int) < (k : Int) := by omega
                    have hcx := LowAt.cell ho hxk
                    rw [partF_at] at hcx
                    have hfx := ho.frozen x
                    obtain ⟨y, hy⟩ : ∃ y, y = f' x := ⟨_, rfl⟩
                    rw [← hy] at hcx
                    obtain ⟨mn, hmn⟩ : ∃ mn, mn = min p q := ⟨_, rfl⟩
                    have emn : min (p : Int) (q : Int) = (mn : Int) := by omega
                    have hput := LowAt.put ho hxk mn
                    have hb2 := hbl.setCell (p := ⟨G, x, none⟩) hG1 (.int .i64 (mn : Int))
                    have H5 := Lib.hid (And.intro ho (And.intro hbl (And.intro hput (And.intro hb2 (And.intro hy (And.intro hmn emn))))))
                    have hys : (y = p ∨ y = q) → setF (partF f' u v x) x mn = partF f' u v (x + 1) := fun h => by
                      rw [partF_set (by rw [← hy, ← HP.out.1, ← HP.out.2]; exact h), ← HP.out.1, ← HP.out.2, hmn]
                    have Hys := Lib.hid hys
                    clear ho hbl hput hb2 hy hmn hys
                    by_cases h1 : y = p
                    · subst h1
                      go_wp2
                      refine ⟨⟨x + 1, by omega, by go_num, ?_, H5.out.2.2.2.1⟩, by simp [intOf]; omega⟩
                      rw [← Hys.out (.inl rfl)]; exact H5.out.2.2.1
                    · have h1I : ((y : Int) == (p : Int)) = false := by simp; omega
                      by_cases h2 : y = q
                      · subst h2
                        go_wp2
                        refine ⟨⟨x + 1, by omega, by go_num, ?_, H5.out.2.2.2.1⟩, by simp [intOf]; omega⟩
                        rw [← Hys.out (.inr rfl)]; exact H5.out.2.2.1
                      · have h2I : ((y : Int) == (q : Int)) = false := by simp; omega
                        have hsk : partF f' u v (x + 1) = partF f' u v x := partF_skip (by rw [← H5.out.2.2.2.2.1, ← HP.out.1, ← HP.out.2]; omega)
                        have Hsk := Lib.hid hsk
                        clear hsk emn
                        go_wp2
                        refine ⟨⟨x + 1, by omega, by go_num, ?_, H5.out.2.1⟩, by simp [intOf]; omega⟩
                        rw [Hsk.out]; exact H5.out.1
                  · have hxkT : decide (x < k) = false := decide_eq_false hxk
                    obtain rfl : x = k := by omega
                    have hfull : LowAt wr D G x (uniteR f' u v) := by
                      have e : lowRow x (partF f' u v x) = lowRow x (uniteR f' u v) := lowRow_congr fun j hj => by simp [partF, hj]
                      unfold LowAt; rw [← e]; exact ho
                    have hlt3 : sumF (uniteR f' u v) x < sumF f x := by
                      have h1 := sum_unite hu hv (show f' u ≠ f' v by rw [← HP.out.1, ← HP.out.2]; exact hpqN)
                      cases b with
                      | true => have := H.out.2.2.2.1 rfl; omega
                      | false => rw [← (H.out.2.2.1 rfl).1]; exact h1
                    have H6 := Lib.hid (And.intro hfull (And.intro (H.out.2.1.unite H.out.2.2.2.2.2.1) (And.intro hlt3 hbl)))
                    clear ho hbl hfull hlt3
                    go_wp2
                    exact ⟨⟨true, j + 1, uniteR f' u v, by omega, rfl, by go_num, H6.out.1, H6.out.2.1, (fun h => by cases h), (fun _ => H6.out.2.2.1), H6.out.2.2.2⟩, by simp [intOf]; omega⟩
            · have hlt2I : decide ((j : Int) < (M : Int)) = false := decide_eq_false (by omega)
              have H := Lib.hid (And.intro ho (And.intro hbk (And.intro hbf (And.intro hbt hbl))))
              have hsum2 := LowAt.sum ho
              have Hsum2 := Lib.hid hsum2
              clear ho hbk hbf hbt hbl hsum2
              go_wp2
              refine ⟨⟨b, f', rfl, H.out.1, H.out.2.1, fun hb => ?_, H.out.2.2.2.2⟩, ?_⟩
              · obtain ⟨e1, e2⟩ := H.out.2.2.1 hb
                rw [e1]
                rw [List.take_of_length_le (by rw [← HM.out]; omega)] at e2
                exact e2
              · rw [Hsum2.out, Hsum.out]
                cases b with
                | true => have := H.out.2.2.2.1 rfl; simp only [boolN]; omega
                | false => rw [(H.out.2.2.1 rfl).1]; simp only [boolN]; omega
        | false =>
          have H3 := Lib.hid (And.intro ho (And.intro hbk (And.intro (hco rfl) hbl)))
          clear ho hbk hco hbl
          obtain ⟨w5, rfl⟩ : ∃ w5, w5 = wr := ⟨_, rfl⟩
          obtain ⟨l, hl⟩ : ∃ l : List Int, l = (List.range k).map fun i => (f i : Int) := ⟨_, rfl⟩
          have hll : l.length = k := by rw [hl]; simp
          have hrow : lowRow k f = ints l := by rw [hl]; simp [lowRow, nums, ints]
          have hli : Ints w5 (some ⟨G, 0, none⟩) l := by
            have h := H3.out.1
            unfold LowAt at h
            rw [hrow] at h
            exact h.toInts (by rw [hll]; unfold maxLen; omega)
          have hlm : l.map (fun x => [x]) = (List.range k).map fun i => [(f i : Int)] := by rw [hl, List.map_map]; rfl
          have Hlm := Lib.hid hlm
          obtain ⟨E, hE⟩ : ∃ E, E = w5.heap.size := ⟨_, rfl⟩
          have hDE : D ≤ E := by have := H3.out.2.2.2.size; omega
          have Hl := Lib.hid (And.intro (fun (wr : World) (hb : Below E w5 wr) => hli.below (by rw [← hE]; exact hb)) hll)
          have HE := Lib.hid hE
          clear hl hll hrow hli hlm hE
          go_wp2
          go_loopw [12, 13] (fun v kk wr => ∃ (j : Nat) (cs : List Value), j ≤ k ∧ kk = .int .i64 j ∧ Own wr E v 29 cs ∧ OwnRows wr E 3 cs ((l.take j).map fun x => [x]) ∧ Below E w5 wr) (fun _ kk _ => k - (intOf kk).toNat)
          case atStart => exact ⟨0, [], by omega, rfl, Own.nil _ _ _, OwnRows.nil _ _ _, Below.refl _ _⟩
          case round =>
            obtain ⟨j, cs, hj, rfl, hv, hcs, hbl⟩ := hrel
            have hDr : E ≤ wr.heap.size := by have := hbl.size; have := HE.out; omega
            have hcl : cs.length = j := by rw [hcs.1]; simp; have := Hl.out.2; omega
            have Hv := Lib.hid (And.intro hv (And.intro hcs (And.intro hbl hcl)))
            clear hv hcs
            by_cases hlt : j < k
            · have hltT : decide (j < k) = true := decide_eq_true hlt
              obtain ⟨g, o, e, _, hc⟩ := (Hl.out.1 wr hbl).at_ (k := j) (by rw [Hl.out.2]; exact hlt)
              cases e
              rw [Nat.zero_add] at hc
              have htk : (l.take (j + 1)).map (fun x => [x]) = (l.take j).map (fun x => [x]) ++ [[l[j]?.getD 0]] := by
                rw [List.take_add_one, List.map_append, List.getElem?_eq_getElem (by rw [Hl.out.2]; exact hlt)]; rfl
              obtain ⟨x, hx⟩ : ∃ x, l[j]?.getD 0 = x := ⟨_, rfl⟩
              rw [hx] at hc htk
              have hnew := Own.new (w := wr) (B := E) 3 (ints [x]) hDr (by unfold maxLen; simp [ints])
              have ha1 : wr.grownBy (wr.alloc (.cells #[.int .i64 x] 3)) none := grown_alloc wr _ none
              have hv1 := Hv.out.1.alloc (.cells #[.int .i64 x] 3)
              have hcs1 : OwnRows (wr.alloc (.cells #[.int .i64 x] 3)) E 3 cs ((l.take j).map fun x => [x]) := Hv.out.2.1.kept ha1 (fun u xs h => by rcases h.blk with e | ⟨g, _, e, _⟩ <;> rw [e] <;> simp)
              have hsz : cs.length < 1099511627776 := by omega
              have hD1 : E ≤ (wr.alloc (.cells #[.int .i64 x] 3)).heap.size := by simp; omega
              have hb1 : Below E w5 (wr.alloc (.cells #[.int .i64 x] 3)) := hbl.alloc hDr _
              have H := Lib.hid (And.intro htk (And.intro hnew (And.intro hv1 (And.intro hcs1 hb1))))
              have hj0 : (j : Int) < (k : Int) := by omega
              clear hx htk hnew ha1 hv1 hcs1 hb1 hbl
              go_wp2_with (at_builtin; refine app1 rfl (.tmp 81) (.tmp 87) 22 29 rfl i29 (.slice none 0 0) 24 Try.underlying22 I29.out.1 I29.out.2.1 I29.out.2.2.1 I29.out.2.2.2 rfl (by omega) E (.slice (some ⟨wr.heap.size, 0, none⟩) 1 1) u12 cs rfl H.out.2.2.1 (by simp [go_sem, Act.eval]) rfl hsz hD1 ?_; intro v' w' h2 h3 h4; have H9 := Lib.hid (And.intro h2 h3); clear h2 h3 h4)
              obtain ⟨h2, h3⟩ := H9.out
              refine ⟨⟨j + 1, cs ++ [.slice (some ⟨wr.heap.size, 0, none⟩) 1 1], by omega, by go_num, h2, ?_, ?_⟩, by simp [intOf]; omega⟩
              · rw [H.out.1]
                exact (H.out.2.2.2.1.kept h3 (fun u xs h => h.ne_type H.out.2.2.1 (by decide))).app (OwnRows.one (H.out.2.1.kept h3 (H.out.2.1.ne_type H.out.2.2.1 (by decide))))
              · refine H.out.2.2.2.2.grown h3 hD1 (fun k hk => ?_)
                rcases H.out.2.2.1.blk with e | ⟨g', _, e, hB, _⟩
                · rw [e] at hk; cases hk
                · rw [e] at hk; cases hk; exact hB
            · have hltT : decide (j < k) = false := decide_eq_false hlt
              obtain rfl : j = k := by omega
              have hcs := Hv.out.2.1
              rw [List.take_of_length_le (by rw [Hl.out.2]; omega)] at hcs
              obtain ⟨a', c', rfl, hrows⟩ := hcs.rows Hv.out.1 (by rw [Hv.out.2.2.2]; unfold maxLen; omega) (fun y hy => by
                obtain ⟨z, _, rfl⟩ := List.mem_map.1 hy
                unfold maxLen; simp)
              have hco := collect_calls a' c' (l.map fun x => [x]) wr hrows (by rw [List.length_map, Hl.out.2]; omega)
              have Hc := Lib.hid hco
              have hlen : (l.map fun x => [x]).length = j := by rw [List.length_map, Hl.out.2]
              rw [hlen] at Hc ⊢
              clear hrows hcs hco hbl hlen
              go_wp2_with fail
              refine Hc.out.mono ?_
              rintro e w8 ⟨a2, c2, rfl, hr2, hb2⟩
              have hBw := H3.out.2.2.2.trans ((Hv.out.2.2.1.trans (hb2.mono hDr)).mono hDE)
              have H8 := Lib.hid (And.intro hr2 hBw)
              clear hr2 hb2 hBw
              go_wp2
              go_ret
              exact ⟨a2, c2, f, by rw [← Hlm.out]; rfl, H3.out.2.1, H3.out.2.2.1, by rw [← Hlm.out]; exact H8.out.1, H8.out.2⟩
end Go.Proofs.Ytlnikgcanimggaa

namespace Go.Proofs.Ytlnikgcanimggaa
open Go.RowKit Go.Sort Go.Shelf Plain
theorem Try.info83 : (Try.prog.info? 83).map (fun i => (i.zero, i.size, i.bytes)) = some (some (.agg #[.int .i64 0, .int .i64 0]), 2, 16) := by kernel_rfl
def pairs (L : Links) : List Value := L.flatMap fun p => [.int .i64 (p.1 : Int), .int .i64 (p.2 : Int)]
theorem pairs_len (L : Links) : (pairs L).length = L.length * 2 := by
  induction L with
  | nil => rfl
  | cons x L ih => show ([_, _] ++ pairs L).length = _; rw [List.length_append, ih]; simp; omega
theorem pairs_app (L M : Links) : pairs (L ++ M) = pairs L ++ pairs M := by simp [pairs]
theorem pairs_get : ∀ (L : Links) (i : Nat) (u v : Nat), L[i]? = some (u, v) → (pairs L)[i * 2]? = some (.int .i64 (u : Int)) ∧ (pairs L)[i * 2 + 1]? = some (.int .i64 (v : Int))
  | [], i, u, v, h => by simp at h
  | x :: L, 0, u, v, h => by simp at h; subst h; exact ⟨rfl, rfl⟩
  | x :: L, i + 1, u, v, h => by
    have h1 := pairs_get L i u v (by simpa using h)
    have e : pairs (x :: L) = .int .i64 (x.1 : Int) :: .int .i64 (x.2 : Int) :: pairs L := rfl
    rw [e, show (i + 1) * 2 = i * 2 + 1 + 1 by omega]
    exact h1
theorem pairs_one (L : Links) : ∀ y ∈ pairs L, y.oneCell' = true := fun y hy => by
  obtain ⟨p, _, h⟩ := List.mem_flatMap.1 hy
  simp at h
  rcases h with rfl | rfl <;> rfl
def Own2 (w : World) (B : Nat) (v : Value) (L : Links) : Prop := w.ownsRow B 83 2 v L.length (pairs L)
section
variable {w w' : World} {B : Nat} {v : Value} {L : Links}
theorem Own2.nil (w : World) (B : Nat) : Own2 w B (.slice none 0 0) [] := World.ownsRow_nil w B 83 2
theorem Own2.kept (h : Own2 w B v L) {row : Option Nat} (hg : w.grownBy w' row) (hne : v.ownBlock = none ∨ v.ownBlock ≠ row) : Own2 w' B v L := World.ownsRow.kept h hg hne
theorem Own2.alloc (h : Own2 w B v L) (o : Obj) : Own2 (w.alloc o) B v L := World.ownsRow.alloc h o
theorem Own2.drewN (h : Own2 w B v L) (n : Nat) : Own2 (w.drewN n) B v L := h
theorem Own2.blk (h : Own2 w B v L) : v.ownBlock = none ∨ ∃ g cur, v.ownBlock = some g ∧ B ≤ g ∧ g < w.heap.size ∧ w.heap[g]? = some (.cells cur 83 (0, 0)) := by
  rcases h.2 with ⟨rfl, _⟩ | ⟨g, cap, cur, rfl, hB, hh, _⟩
  · exact .inl rfl
  · refine .inr ⟨g, cur, rfl, hB, ?_, hh⟩
    rcases Nat.lt_or_ge g w.heap.size with hl | hl
    · exact hl
    · rw [Array.getElem?_eq_none hl] at hh; cases hh
theorem Own2.lnk (h : Own2 w B v L) (hn : L.length ≤ 1000000) : ∃ a c, v = .slice a L.length c ∧ Lnk w a L := by
  rcases Nat.eq_zero_or_pos L.length with h0 | h0
  · obtain rfl : L = [] := List.eq_nil_of_length_eq_zero h0
    rcases h.2 with ⟨rfl, _⟩ | ⟨g, cap, cur, rfl, _⟩
    · exact ⟨none, 0, rfl, Nat.zero_le _, fun i u v h => by simp at h⟩
    · exact ⟨_, _, rfl, Nat.zero_le _, fun i u v h => by simp at h⟩
  · obtain ⟨g, cap, rfl, _, hlt⟩ := World.ownsRow.form h h0
    refine ⟨_, _, rfl, hn, fun i u v hx => ⟨g, rfl, hlt, ?_, ?_⟩⟩
    · have := World.ownsRow.cells h (g := g) rfl (i * 2) _ (pairs_get L i u v hx).1
      rw [add_zero_addr, Nat.zero_add] at this; exact this
    · have := World.ownsRow.cells h (g := g) rfl (i * 2 + 1) _ (pairs_get L i u v hx).2
      rw [add_zero_addr, Nat.zero_add] at this; exact this
end
section
variable {P : Program} {w : World}
/-- append of one link: its box has just been made. -/
theorem app2 {ops : Array Oper} {rest : List Oper} {o : Oper} {a : Act} {Q : Exit → Act → World → Prop} (hgd : o.guard = none) (s x : Operand) (T : TypeId)
    (ho : o.op = .call { callee := .builtin .append, args := #[s, x], argTypes := #[T, T] })
    (i : TypeInfo) (z : Value) (ht : P.underlying T = some (.slice 83)) (hi : P.info? 83 = some i) (hz : i.zero = some z)
    (hsize : i.size = 2) (hby : i.bytes = 16) (hzs : z.cells.size = 2)
    (B : Nat) (u1 u2 : Nat) (v : Value) (L : Links) (hs : a.eval s = v) (hown : Own2 w B v L) (hx : a.eval x = .slice (some ⟨w.heap.size, 0, none⟩) 1 1)
    (hlen : L.length < 1000000) (hB : B ≤ w.heap.size)
    (h : ∀ v' w', Own2 w' B v' (L ++ [(u1, u2)]) → w.grownBy w' v.ownBlock → wpList P ops Q rest (a.put o.dst v') w') :
    wpList P ops Q (o :: rest) a (w.alloc (.cells #[.int .i64 (u1 : Int), .int .i64 (u2 : Int)] 83)) := by
  refine wpList_append_own_at (w := w.alloc (.cells #[.int .i64 (u1 : Int), .int .i64 (u2 : Int)] 83)) hgd s x T ho B 83 i z 2 16 ht hi hz hsize hby hzs (by omega) v L.length (pairs L) hs (hown.alloc _) ⟨w.heap.size, 0, none⟩ 1 1 (pairs [(u1, u2)]) hx rfl ?_ (pairs_one _) (by unfold maxLen; omega)
    (by omega) (by simp; omega) ?_
  · intro j u hj
    rw [add_zero_addr, Nat.zero_add]
    match j, hj with
    | 0, hj => simp [pairs] at hj; subst hj; simp [go_sem]
    | 1, hj => simp [pairs] at hj; subst hj; simp [go_sem]
    | j + 2, hj => simp [pairs] at hj
  intro v' w' h2 h3 _ h5
  refine h v' w' ?_ ((grown_alloc w _ v.ownBlock).trans h3)
  unfold Own2
  rw [List.length_append, pairs_app]; exact h2
end
end Go.Proofs.Ytlnikgcanimggaa
