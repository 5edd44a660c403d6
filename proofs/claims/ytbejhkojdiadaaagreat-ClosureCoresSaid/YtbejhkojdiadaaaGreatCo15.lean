/- closure's builder: from and with. -/
import Derived.Test.YtbejhkojdiadaaaGreatCo01
import Derived.Test.YtbejhkojdiadaaaGreatCo02
import Derived.Test.YtbejhkojdiadaaaGreatCo03
import Derived.Test.YtbejhkojdiadaaaGreatCo04
import Derived.Test.YtbejhkojdiadaaaGreatCo05
import Derived.Test.YtbejhkojdiadaaaGreatCo06
import Derived.Test.YtbejhkojdiadaaaGreatCo07
import Derived.Test.YtbejhkojdiadaaaGreatCo08
import Derived.Test.YtbejhkojdiadaaaGreatCo09
import Derived.Test.YtbejhkojdiadaaaGreatCo10
import Derived.Test.YtbejhkojdiadaaaGreatCo11
import Derived.Test.YtbejhkojdiadaaaGreatCo12
import Derived.Test.YtbejhkojdiadaaaGreatCo13
import Derived.Test.YtbejhkojdiadaaaGreatCo14
import Derived.Test.YtbejhkojdiadaaaGreatProg
import Derived.WalkKit
import Derived.WalkSpells
import Derived.BigQuiet
import Derived.Deep.QuietTactic
import Derived.Deep.LoopGhost
import Derived.Lib.Hide
import Derived.Maps.AppendAt
import Derived.Deep.AppendLies
import Derived.StillTailTactics
import Derived.Laws.CopyOwn
import Derived.Deep.OwnRows
import Derived.Deep.DeepCutAuto
import Derived.Laws.Cover3
import Derived.Deep.RegionHeld3
import Derived.RangeFuncRecord
import Derived.Lib.SlicesSearch
import Derived.RangeFuncBox
import Derived.RangeFuncLeaves
import Derived.RangeFuncWrites
import Derived.RangeFuncFrom
import Derived.Shelf.Abstract
import Derived.OwnWalkIn
import Derived.TacticsInMore
import Derived.LoopNIn
import Derived.LoopIn
import Derived.Shelf.GgSortFunc.Insertion
import Derived.Shelf.SlIter.Collect
import Derived.Shelf.Sort.Plain
import Derived.Deep.RegionLaw
import Derived.ControlIn
set_option linter.unusedSimpArgs false
set_option linter.unusedVariables false
namespace Go.Proofs.YtbejhkojdiadaaaGreat
open Go.RowKit PlainPm
theorem b81_cells {W : World} {C : Nat} {a0 a1 a2 : Value} (h : W.heap[C]? = some (.cells #[a0, a1, a2] 81 (0, 0))) :
    W.cell? ⟨C, 0, none⟩ = some a0 ∧ W.cell? ⟨C, 1, none⟩ = some a1 ∧ W.cell? ⟨C, 2, none⟩ = some a2 ∧ W.frozen? ⟨C, 0, none⟩ = false ∧ W.frozen? ⟨C, 1, none⟩ = false ∧ W.frozen? ⟨C, 2, none⟩ = false := by
  refine ⟨?_, ?_, ?_, ?_, ?_, ?_⟩ <;> simp [World.cell?, World.frozen?, h]
theorem b81_set0 {W : World} {C : Nat} {a0 a1 a2 u : Value} (h : W.heap[C]? = some (.cells #[a0, a1, a2] 81)) : (W.setCell ⟨C, 0, none⟩ u).heap[C]? = some (.cells #[u, a1, a2] 81) := by
  have hl := (Array.getElem?_eq_some_iff.1 h).1
  have h2 : W.heap[C] = .cells #[a0, a1, a2] 81 := by rw [Array.getElem?_eq_getElem hl] at h; exact Option.some.inj h
  simp [World.setCell, Array.getElem_modify, hl, h2]
theorem b81_set1 {W : World} {C : Nat} {a0 a1 a2 u : Value} (h : W.heap[C]? = some (.cells #[a0, a1, a2] 81)) : (W.setCell ⟨C, 1, none⟩ u).heap[C]? = some (.cells #[a0, u, a2] 81) := by
  have hl := (Array.getElem?_eq_some_iff.1 h).1
  have h2 : W.heap[C] = .cells #[a0, a1, a2] 81 := by rw [Array.getElem?_eq_getElem hl] at h; exact Option.some.inj h
  simp [World.setCell, Array.getElem_modify, hl, h2]
theorem b81_set2 {W : World} {C : Nat} {a0 a1 a2 u : Value} (h : W.heap[C]? = some (.cells #[a0, a1, a2] 81)) : (W.setCell ⟨C, 2, none⟩ u).heap[C]? = some (.cells #[a0, a1, u] 81) := by
  have hl := (Array.getElem?_eq_some_iff.1 h).1
  have h2 : W.heap[C] = .cells #[a0, a1, a2] 81 := by rw [Array.getElem?_eq_getElem hl] at h; exact Option.some.inj h
  simp [World.setCell, Array.getElem_modify, hl, h2]
theorem set3_b81 {W : World} {C : Nat} {a0 a1 a2 u0 u1 u2 : Value} (h : W.heap[C]? = some (.cells #[a0, a1, a2] 81 (0, 0))) : (set3 W C u0 u1 u2).heap[C]? = some (.cells #[u0, u1, u2] 81 (0, 0)) := b81_set2 (b81_set1 (b81_set0 h))
def BldV {n : Nat} (w : World) (bk : Nat) (G : Pm n → Prop) (S : List Nat) : Prop :=
  ∃ a c b d, w.heap[bk]? = some (.cells #[.int .i64 (n : Int), .slice a n c, .slice b n d] 81 (0, 0)) ∧ GrS w (.agg #[.int .i64 (n : Int), .slice a n c, .slice b n d]) G (bk :: S)
set_option maxRecDepth 100000 in
set_option maxHeartbeats 2000000 in
theorem from71 {n : Nat} (hn : 0 < n ∧ n ≤ 64) {w : World} :
    Calls Tryz.prog 71 #[.int .i64 (n : Int)] w fun e w' => ∃ bk, e = .returned (.pointer (some ⟨bk, 0, none⟩)) ∧ w.heap.size ≤ bk ∧ Below w.heap.size w w' ∧ ∀ S, (∀ m ∈ S, m < w.heap.size) → BldV w' bk (Grp (n := n) (· ∈ ([] : List (Pm n)))) S := by
  have h90 := mk90 (w := w) hn (L := ([] : List (Pm n))) (by simp) ⟨none, 0, [], rfl, Row.nil, rfl, fun k s hs => by simp at hs⟩
  simp only [List.length_nil] at h90
  have H := Lib.hid h90
  clear h90
  go_enter Tryz.func71, Tryz.ntmps71
  go_wp2_with (go_at_call 90; (with_reducible refine H.out.mono ?_); rintro e1 w1 ⟨a, c, b, d, rfl, k1, k2⟩; have H1 := Lib.hid (And.intro k1 k2); clear k1 k2)
  obtain ⟨WA, hWA⟩ : ∃ WA, WA = w1.alloc (.cells #[.int .i64 (n : Int), .slice a n c, .slice b n d] 25) := ⟨_, rfl⟩
  have hsA : WA.heap.size = w1.heap.size + 1 := by rw [hWA]; simp
  have hbA : Below w1.heap.size w1 WA := by rw [hWA]; exact alloc_b (Below.refl _ _) _
  rw [← hWA]
  have hbF : Below w1.heap.size w1 (WA.alloc (.cells #[.int .i64 (n : Int), .slice a n c, .slice b n d] 81)) := alloc_b hbA _
  have hh := World.alloc_heap_new WA (.cells #[.int .i64 (n : Int), .slice a n c, .slice b n d] 81)
  rw [hsA] at hh
  clear hWA
  go_ret
  refine ⟨_, rfl, by have := H1.out.1.size; omega, below_trans H1.out.1 hbF, fun S hS => ⟨a, c, b, d, hh, ?_⟩⟩
  refine GrS.below (GrS.ext (H1.out.2 S hS) (fun m hm => ?_)) hbF
  rcases List.mem_cons.1 hm with rfl | h
  · right; omega
  · exact .inl h
theorem sgen_len {n : Nat} {G : Pm n → Prop} {O : Nat → List Nat} {R : Nat → Nat → Pm n} (hG : ChG G O R) (hn : n ≤ 64) : ∀ k, k ≤ n → (sgen n O R k).length ≤ k * 63
  | 0, _ => by simp [sgen]
  | k + 1, h => by
    have h1 := sgen_len hG hn k (by omega)
    have h2 := hG.short (i := k) (by omega)
    rw [sgen_succ, List.length_append, List.length_map, List.length_drop]
    omega
theorem grp_step {n : Nat} {G : Pm n → Prop} {s l : List (Pm n)} (x : Pm n) (h : ∀ y, Grp (· ∈ s) y ↔ Grp (fun z => G z ∨ z ∈ l) y) (y : Pm n) : Grp (· ∈ s ++ [x]) y ↔ Grp (fun z => G z ∨ z ∈ l ++ [x]) y := by
  constructor
  · refine Grp.sub Grp.isG fun z hz => ?_
    rcases List.mem_append.1 hz with hz | hz
    · exact Grp.sub Grp.isG (fun q hq => Grp.base (by rcases hq with hq | hq; exact .inl hq; exact .inr (List.mem_append_left _ hq))) ((h z).1 (Grp.base hz))
    · exact Grp.base (.inr (List.mem_append_right _ hz))
  · refine Grp.sub Grp.isG fun z hz => ?_
    have up : ∀ {q : Pm n}, Grp (fun z => G z ∨ z ∈ l) q → Grp (· ∈ s ++ [x]) q := fun {q} hq => Grp.sub Grp.isG (fun r hr => Grp.base (List.mem_append_left _ hr)) ((h q).2 hq)
    rcases hz with hz | hz
    · exact up (Grp.base (.inl hz))
    · rcases List.mem_append.1 hz with hz | hz
      · exact up (Grp.base (.inr hz))
      · exact Grp.base (List.mem_append_right _ hz)
theorem grp_in {n : Nat} {G : Pm n → Prop} {l : List (Pm n)} {x : Pm n} (hx : Grp (fun z => G z ∨ z ∈ l) x) (y : Pm n) : Grp (fun z => G z ∨ z ∈ l) y ↔ Grp (fun z => G z ∨ z ∈ l ++ [x]) y := by
  constructor
  · exact Grp.sub Grp.isG (fun q hq => Grp.base (by rcases hq with hq | hq; exact .inl hq; exact .inr (List.mem_append_left _ hq)))
  · refine Grp.sub Grp.isG fun z hz => ?_
    rcases hz with hz | hz
    · exact Grp.base (.inl hz)
    · rcases List.mem_append.1 hz with hz | hz
      · exact Grp.base (.inr hz)
      · rw [List.mem_singleton.1 hz]; exact hx
def PmsN {n : Nat} (w : World) (M : List Nat) (v : Value) (l : List (Pm n)) : Prop :=
  ∃ a c vs, v = .slice a l.length c ∧ (∀ W', Kept w W' M → Row W' a vs) ∧ PmL w M vs l
theorem PmL.keptM {n : Nat} {w w' : World} {M : List Nat} {vs : List Value} {l : List (Pm n)} (h : PmL w M vs l) (k : Kept w w' M) : PmL w' M vs l :=
  ⟨h.1, fun i x hx => by obtain ⟨u, hu, hp⟩ := h.2 i x hx; exact ⟨u, hu, hp.kept k⟩⟩
theorem PmsN.kept {n : Nat} {w w' : World} {M : List Nat} {v : Value} {l : List (Pm n)} (h : PmsN w M v l) (k : Kept w w' M) : PmsN w' M v l := by
  obtain ⟨a, c, vs, rfl, h1, h2⟩ := h
  exact ⟨a, c, vs, rfl, fun W' k' => h1 W' (k.trans k'), h2.keptM k⟩
theorem PmsN.of {n : Nat} {w w' : World} {M : List Nat} {v : Value} {l : List (Pm n)} (h : PmsV w [] v l) (k : Below w.heap.size w w') (hM : ∀ m ∈ M, w.heap.size ≤ m) : PmsN w' M v l := by
  obtain ⟨a, c, vs, rfl, h1, h2⟩ := h
  exact ⟨a, c, vs, rfl, fun W' k' => h1.below (((Kept.ofBelow k : Kept w w' M).trans k').below (Nat.le_refl _) hM), ⟨h2.1, fun i x hx => by obtain ⟨u, hu, hp⟩ := h2.2 i x hx; exact ⟨u, hu, hp.fresh k hM⟩⟩⟩
theorem BoolIs.true_ {e : Ending} {Q : Prop} (h : BoolIs e Q) (q : Q) : e = .returned (.bool true) := by
  obtain ⟨B, rfl, hB⟩ := h; rw [hB.2 q]
theorem BoolIs.false_ {e : Ending} {Q : Prop} (h : BoolIs e Q) (q : ¬ Q) : e = .returned (.bool false) := by
  obtain ⟨B, rfl, hB⟩ := h
  cases B with
  | false => rfl
  | true => exact absurd (hB.1 rfl) q
theorem bld_put {n : Nat} {wr w7 : World} {bk : Nat} {G : Pm n → Prop} {S : List Nat} {x0 x1 x2 : Value} {a b : Option Addr} {c d : Nat} (h : wr.heap[bk]? = some (.cells #[x0, x1, x2] 81 (0, 0))) (hb : Below wr.heap.size wr w7)
    (hg : GrS w7 (.agg #[.int .i64 (n : Int), .slice a n c, .slice b n d]) G (bk :: S)) :
    BldV (((w7.setCell ⟨bk, 0, none⟩ (.int .i64 (n : Int))).setCell ⟨bk, 1, none⟩ (.slice a n c)).setCell ⟨bk, 2, none⟩ (.slice b n d)) bk G S ∧ Kept wr (((w7.setCell ⟨bk, 0, none⟩ (.int .i64 (n : Int))).setCell ⟨bk, 1, none⟩ (.slice a n c)).setCell ⟨bk, 2, none⟩ (.slice b n d)) [bk] := by
  have h7 := (hb.block bk (Array.getElem?_eq_some_iff.1 h).1).trans h
  have hk : Kept w7 (set3 w7 bk (.int .i64 (n : Int)) (.slice a n c) (.slice b n d)) [bk] := set3_kept (by simp)
  exact ⟨⟨a, c, b, d, set3_b81 h7, hg.kept (hk.mono (by simp))⟩, (Kept.ofBelow hb).trans hk⟩
set_option maxRecDepth 100000 in
set_option maxHeartbeats 4000000 in
theorem with72 {n : Nat} (hn : 0 < n ∧ n ≤ 64) {w : World} {bk : Nat} {G : Pm n → Prop} {S : List Nat} (hb : BldV w bk (Grp (fun x => G x ∨ x ∈ ([] : List (Pm n)))) S) {v : Value} {L : List (Pm n)} (hl : L.length ≤ 4096) (hv : PmsN w [bk] v L) (hS : ∀ m ∈ S, m < w.heap.size) :
    Calls Tryz.prog 72 #[.pointer (some ⟨bk, 0, none⟩), v] w fun e w' => e = .returned (.pointer (some ⟨bk, 0, none⟩)) ∧ BldV w' bk (Grp fun x => G x ∨ x ∈ L) S ∧ Kept w w' [bk] := by
  obtain ⟨i27, hi27, hz27, hs27, hb27⟩ := info_parts Tryz.info27
  have I27 := Lib.hid (And.intro hi27 (And.intro hz27 (And.intro hs27 hb27)))
  clear hi27 hz27 hs27 hb27
  have hv0 := hv
  obtain ⟨va, vc, vs, rfl, hr, hp⟩ := hv
  obtain ⟨m, hm⟩ : ∃ m, L.length = m := ⟨_, rfl⟩
  have H := Lib.hid (And.intro hr (And.intro hp (And.intro hm (And.intro hb hS))))
  rw [hm] at hl ⊢
  clear hr hp hm hb hS hv0
  go_enter Tryz.func72, Tryz.ntmps72
  go_wp2_with fail
  go_loopw [6, 9] (fun _ i wr => ∃ (k : Nat), k ≤ m ∧ i = .int .i64 (k : Int) ∧ BldV wr bk (Grp fun x => G x ∨ x ∈ L.take k) S ∧ Kept w wr [bk]) (fun _ i _ => m - (intOf i).toNat)
  case atStart => exact ⟨0, by omega, rfl, by rw [List.take_zero]; exact H.out.2.2.2.1, Kept.refl _ _⟩
  case round =>
    obtain ⟨k, hk, rfl, hb, hkp⟩ := hrel
    by_cases hkm : k < m
    · obtain ⟨a, c, b, d, hcell, hgs⟩ := hb
      obtain ⟨T, hT, ab, ao, c', bb, bo, e', he', hlv⟩ := hgs.now.lev Grp.isG ⟨hn.1, hn.2⟩
      simp only [cv, Value.agg.injEq, Array.mk.injEq, List.cons.injEq, Value.slice.injEq, and_true, true_and] at he'
      obtain ⟨⟨rfl, rfl⟩, rfl, rfl⟩ := he'
      obtain ⟨x, hx⟩ : ∃ x, L[k]? = some x := ⟨_, List.getElem?_eq_getElem (by rw [H.out.2.2.1]; exact hkm)⟩
      obtain ⟨u, hu, hpm⟩ := (H.out.2.1.keptM hkp).2 k x hx
      obtain ⟨rb, ro, rfl, _, hrc⟩ := (H.out.1 wr hkp).2 k u hu
      have hxt : L.take (k + 1) = L.take k ++ [x] := by rw [List.take_add_one, hx]; rfl
      have h77 := has77 hn Grp.isG hT hcell hlv hpm.weak
      have hlt := (Array.getElem?_eq_some_iff.1 hcell).1
      have hst := fun (V : World) (hV : Below wr.heap.size wr V) => strong73 (c := c) (e := d) hn (hT.chG Grp.isG) hlv hV
      have hsg := sgen_grp Grp.isG hT
      have hsl : (sgen n (orbO T) (PlainPm.repT T) n ++ [x]).length ≤ 4096 := by
        have h1 := sgen_len (hT.chG Grp.isG) hn.2 n (Nat.le_refl _)
        have h2 : n * 63 ≤ 64 * 63 := Nat.mul_le_mul_right _ hn.2
        have h3 := Nat.le_trans h1 h2
        rw [List.length_append, List.length_singleton]; exact Nat.le_trans (Nat.succ_le_succ h3) (by decide)
      obtain ⟨xb, xo, xc, rfl, _⟩ := id hpm
      have HC := Lib.hid (And.intro hcell (And.intro hst (And.intro hsg (And.intro hsl (And.intro hkp (And.intro hpm (And.intro hxt (And.intro hgs hlv))))))))
      have H77 := Lib.hid h77
      have hk1 : (k : Int) < m := by omega
      clear hcell hst hsg hsl hkp hpm hxt hgs h77 hx hu hlv hT
      by_cases hgx : Grp (fun x => G x ∨ x ∈ L.take k) x
      · have HG := Lib.hid hgx
        clear hgx
        go_wp2_with (go_at_call 77; (with_reducible refine H77.out.mono ?_); rintro e2 w2 ⟨h1, k2⟩; have h2 := h1.true_ HG.out; subst h2; have H2 := Lib.hid k2; clear h1 k2)
        refine ⟨⟨k + 1, by omega, by go_num, ?_, HC.out.2.2.2.2.1.trans (Kept.ofBelow H2.out)⟩, by simp [intOf]; omega⟩
        rw [HC.out.2.2.2.2.2.2.1]
        exact ⟨_, _, _, _, (H2.out.block bk hlt).trans HC.out.1, (HC.out.2.2.2.2.2.2.2.1.below H2.out).congr (grp_in HG.out)⟩
      · have HG := Lib.hid hgx
        clear hgx
        go_wp2_with (go_at_call 77; (with_reducible refine H77.out.mono ?_); rintro e2 w2 ⟨h1, k2⟩; have h2 := h1.false_ HG.out; subst h2; have H2 := Lib.hid k2; clear h1 k2)
        have h8 := (H2.out.block bk hlt).trans HC.out.1
        obtain ⟨z0, z1, z2, z3, z4, z5⟩ := b81_cells h8
        have hx0 : w2.cell? ⟨bk, 0, none⟩ = some (.int .i64 (n : Int)) ∧ w2.cell? ⟨bk, 1, none⟩ = some (.slice (some ⟨ab, ao, none⟩) n c) ∧ w2.cell? ⟨bk, 2, none⟩ = some (.slice (some ⟨bb, bo, none⟩) n d) ∧ Below w2.heap.size w2 w2 := ⟨z0, z1, z2, Below.refl _ _⟩
        have hlt2 : bk < w2.heap.size := Nat.lt_of_lt_of_le hlt H2.out.size
        have hne2 : bk ≠ w2.heap.size := by omega
        have H8 := Lib.hid h8
        clear h8
        go_region_law
          (first
            | (go_simp; go_at_call 73; (with_reducible refine (HC.out.2.1 _ ?_).mono ?_)
               · refine below_trans H2.out ?_
                 first | exact Below.refl _ _ | exact below_self_drewN _ _ | exact alloc_b (Below.refl _ _) _ | exact alloc_b (below_self_drewN _ _) _
               rintro e5 w5 ⟨v5, us, rfl, k1, k2, k3, k4⟩
               have b5 : Below w2.heap.size w2 w5 := below_trans (by first | exact Below.refl _ _ | exact below_self_drewN _ _ | exact alloc_b (Below.refl _ _) _ | exact alloc_b (below_self_drewN _ _) _) k4
               have y0 : w5.cell? ⟨bk, 0, none⟩ = some (.int .i64 (n : Int)) := (b5.cell hlt2).trans z0
               have hlt5 : bk < w5.heap.size := Nat.lt_of_lt_of_le hlt2 b5.size
               have hne5 : bk ≠ w5.heap.size := Nat.ne_of_lt hlt5
               have K1 := Lib.hid (show Own w5 w2.heap.size v5 27 us from k1.mono (by first | exact Nat.le_refl _ | simp))
               have KP := Lib.hid (fun (ad : Addr) (x : Value) h => (k4.cell (p := ad) (block_lt_of_cell h)).trans (h : _ = some x))
               have H5 := Lib.hid (And.intro k1 (And.intro k2 (And.intro k3 k4)))
               clear k1 k2 k3 k4)
            | (refine step_app1 ?_ (.tmp 28) (.tmp 30) 44 27 ?_ i27 (.slice none 0 0) 24 Tryz.underlying44 I27.out.1 I27.out.2.1 I27.out.2.2.1 I27.out.2.2.2 ?_ ?_ _ (.slice (some ⟨xb, xo, none⟩) n xc) v5 us ?_ w5 H5.out.1 ?_ ?_ ?_ (by have := H5.out.2.2.1; omega) H5.out.2.2.2.size ?_
               rfl
               rfl
               rfl
               omega
               rfl
               first | exact Below.refl _ _ | exact alloc_b (Below.refl _ _) _
               first | exact ⟨_, rfl, by simp⟩ | exact ⟨_, rfl, KP.out ⟨w2.heap.size, 0, none⟩ _ (by simp)⟩
               rfl
               intro v6 w6 k1 k2 k3 k4
               have b6 : Below w2.heap.size w2 w6 := b5.grown k2 b5.size (fun g hg => (K1.out.block_lt hg).2)
               have y6 : w6.cell? ⟨bk, 0, none⟩ = some (.int .i64 (n : Int)) := (b6.cell hlt2).trans z0
               have b6v := H5.out.2.2.2.grown k2 H5.out.2.2.2.size (fun g hg => (H5.out.1.block_lt hg).2)
               have p6 := H5.out.2.1.below (below_trans H2.out b6)
               have H6 := Lib.hid (And.intro k1 p6)
               clear k1 k2 k3 k4 b6v p6)
            | (go_simp; go_at_call 90; (with_reducible refine (mk90 (L := sgen n (orbO T) (PlainPm.repT T) n ++ [x]) hn HC.out.2.2.2.1 (pms_own H6.out.1 ((H6.out.2.snoc (HC.out.2.2.2.2.2.1.weak.below (below_trans H2.out b6)))) HC.out.2.2.2.1)).mono ?_)
               rintro e7 w7 ⟨a7, c7, b7, d7, rfl, k1, k2⟩
               have b7' : Below w2.heap.size w2 w7 := below_trans b6 k1
               have f0 : w7.frozen? ⟨bk, 0, none⟩ = false := (b7'.frozen hlt2).trans z3
               have f1 : w7.frozen? ⟨bk, 1, none⟩ = false := (b7'.frozen hlt2).trans z4
               have f2 : w7.frozen? ⟨bk, 2, none⟩ = false := (b7'.frozen hlt2).trans z5
               have q0 : w7.cell? ⟨bk, 0, none⟩ = some (.int .i64 (n : Int)) := (b7'.cell hlt2).trans z0
               have q1 : w7.cell? ⟨bk, 1, none⟩ = some (.slice (some ⟨ab, ao, none⟩) n c) := (b7'.cell hlt2).trans z1
               have q2 : w7.cell? ⟨bk, 2, none⟩ = some (.slice (some ⟨bb, bo, none⟩) n d) := (b7'.cell hlt2).trans z2
               have B7 := Lib.hid b7'
               have H7 := Lib.hid (And.intro k1 k2)
               clear k1 k2))
        all_goals
          go_wp2_with fail
          have hfin := bld_put H8.out B7.out ((H7.out.2 (bk :: S) (fun q hq => by
            have h1 := H2.out.size
            have h2 := b6.size
            have h4 := HC.out.2.2.2.2.1.size
            rcases List.mem_cons.1 hq with hq | hq
            · rw [hq]; exact Nat.lt_of_lt_of_le hlt2 h2
            · exact Nat.lt_of_lt_of_le (H.out.2.2.2.2 q hq) (Nat.le_trans h4 (Nat.le_trans h1 h2)))).congr (grp_step x HC.out.2.2.1))
          rw [← HC.out.2.2.2.2.2.2.1] at hfin
          exact ⟨⟨k + 1, by omega, by go_num, hfin.1, (HC.out.2.2.2.2.1.trans (Kept.ofBelow H2.out)).trans hfin.2⟩, by simp [intOf]; omega⟩
    · obtain rfl : k = m := by omega
      have hk1 : ¬ (k : Int) < k := by omega
      have HC := Lib.hid (And.intro hb hkp)
      clear hb hkp
      go_wp2_with fail
      go_ret
      have h1 := HC.out.1
      rw [← H.out.2.2.1, List.take_length] at h1
      exact ⟨rfl, h1, HC.out.2⟩
end Go.Proofs.YtbejhkojdiadaaaGreat
