/- Plain: the examples of chapter 9, its least elements and its cosets. · The reference's Strong walked. · Chapter 9's examples: RankKnown walked. -/
import Derived.Test.YtbejhkojdiadaaaGreatDoorRk01
import Derived.Test.YtbejhkojdiadaaaGreatDoorRk02
import Derived.Test.YtbejhkojdiadaaaGreatDoorRk03
import Derived.Test.YtbejhkojdiadaaaGreatDoorRk04
import Derived.Test.YtbejhkojdiadaaaGreatDoorRk05
import Derived.Test.YtbejhkojdiadaaaGreatDoorRk06
import Derived.Test.YtbejhkojdiadaaaGreatDoorRk07
import Derived.Test.YtbejhkojdiadaaaGreatDoorRk08
import Derived.Test.YtbejhkojdiadaaaGreatDoorRk09
import Derived.Test.YtbejhkojdiadaaaGreatDoorRk10
import Derived.Test.YtbejhkojdiadaaaGreatDoorRk11
import Derived.Test.YtbejhkojdiadaaaGreatDoorRk12
import Derived.Test.YtbejhkojdiadaaaGreatDoorRk13
import Derived.Test.YtbejhkojdiadaaaGreatDoorRk14
import Derived.Test.YtbejhkojdiadaaaGreatDoorRk15
import Derived.Test.YtbejhkojdiadaaaGreatDoorRk16
import Derived.Test.YtbejhkojdiadaaaGreatDoorRk17
import Derived.Test.YtbejhkojdiadaaaGreatDoorRk18
import Derived.Test.YtbejhkojdiadaaaGreatDoorRk19
import Derived.Test.YtbejhkojdiadaaaGreatDoorRk20
import Derived.Test.YtbejhkojdiadaaaGreatDoorProg
import Derived.WalkKit
import Derived.WalkSpells
import Derived.BigQuiet
import Derived.Deep.QuietTactic
import Derived.Deep.LoopGhost
import Derived.Lib.Hide
import Derived.Maps.AppendAt
import Derived.Deep.AppendLies
import Derived.StillTailTactics
import Derived.Laws.CopyOwn
import Derived.Deep.OwnRows
import Derived.Deep.DeepCutAuto
import Derived.Laws.Cover3
import Derived.Deep.RegionHeld3
import Derived.RangeFuncRecord
import Derived.Lib.SlicesSearch
import Derived.RangeFuncBox
import Derived.RangeFuncLeaves
import Derived.RangeFuncWrites
import Derived.RangeFuncFrom
import Derived.Shelf.Abstract
import Derived.OwnWalkIn
import Derived.TacticsInMore
import Derived.LoopNIn
import Derived.LoopIn
import Derived.Shelf.GgSortFunc.Insertion
import Derived.Shelf.SlIter.Collect
import Derived.Shelf.Sort.Plain
import Derived.Deep.RegionLaw
import Derived.ControlIn
import Derived.Deep.AppendSrc
import Derived.Sort.BigQuietIn
import Derived.Laws.BytesArg
import Derived.Laws.IdiomStrings
import Derived.Maps.OwnSet
import Derived.Carry
import Derived.Shelf.SlLaysF
import Derived.Shelf.SlSortCmp.Whole1
set_option linter.unusedSimpArgs false
set_option linter.unusedVariables false
namespace Go.Proofs.YtbejhkojdiadaaaGreatDoor
open Go.RowKit PlainPm
section
variable {n : Nat}
theorem allE_of {L : List (Pm n)} {T : Tw n} (h : Of (Grp (· ∈ L)) T) : AllE (elsF (orbO T) (PlainPm.repT T) n 0 (PlainPm.one n)) (Grp (· ∈ L)) :=
  ⟨els_lt (h.chG Grp.isG) (Nat.zero_add n) Grp.isG.one, fun x => mem_all (h.chG Grp.isG)⟩
theorem cos_of {G1 G2 : Pm n → Prop} {O O2 : Nat → List Nat} {R R2 : Nat → Nat → Pm n} (h : ChG G1 O R) (h2 : ChG G2 O2 R2) : CosSet G1 G2 (cosF O R (elsF O2 R2 n 0 (PlainPm.one n))) :=
  ⟨(els_lt h2 (Nat.zero_add n) h2.isG.one).filter _, fun x => mem_cosF.trans (and_congr (mem_all h2) (leastC_iff h x).symm)⟩
theorem cos_inj {G1 G2 : Pm n → Prop} {C : List (Pm n)} (hG : IsG G1) (hC : CosSet G1 G2 C) {s s' c c' : Pm n} (hs : G1 s) (hs' : G1 s') (hc : c ∈ C) (hc' : c' ∈ C) (e : s.mul c = s'.mul c') : c = c' ∧ s = s' := by
  have h1 : c' = (s'.inv.mul s).mul c := by rw [Pm.mul_assoc, e, ← Pm.mul_assoc, Pm.inv_mul, Pm.one_mul]
  have h2 : c = (s.inv.mul s').mul c' := by rw [Pm.mul_assoc, ← e, ← Pm.mul_assoc, Pm.inv_mul, Pm.one_mul]
  have k1 := ((hC.2 c).1 hc).2 _ (hG.mul (hG.inv hs') hs)
  have k2 := ((hC.2 c').1 hc').2 _ (hG.mul (hG.inv hs) hs')
  rw [← h1] at k1
  rw [← h2] at k2
  have hcc : c = c' := by
    rcases k1 with k1 | k1
    · exact k1.symm
    · rcases k2 with k2 | k2
      · exact k2
      · exact (lexLt_asymm k1 k2).elim
  subst hcc
  refine ⟨rfl, ?_⟩
  have := congrArg (fun z => z.mul c.inv) e
  simpa [Pm.mul_inv_cancel] using this
def SeenI (E S C : List (Pm n)) (i k : Nat) (bs : List Bool) : Prop :=
  bs.length = E.length ∧ ∀ (a : Nat) (x : Pm n), E[a]? = some x → (bs[a]? = some true ↔ ∃ (i' k' : Nat) (s c : Pm n), S[k']? = some s ∧ C[i']? = some c ∧ x = s.mul c ∧ (i' < i ∨ i' = i ∧ k' < k))
theorem SeenI.start (E S C : List (Pm n)) : SeenI E S C 0 0 (List.replicate E.length false) :=
  ⟨by simp, fun a x hx => by
    have hl := (List.getElem?_eq_some_iff.1 hx).1
    rw [List.getElem?_replicate, if_pos hl]
    constructor
    · intro e; cases e
    · rintro ⟨i', k', s, c, _, _, _, h⟩; omega⟩
theorem SeenI.next {E S C : List (Pm n)} {i : Nat} {bs : List Bool} (h : SeenI E S C i S.length bs) : SeenI E S C (i + 1) 0 bs :=
  ⟨h.1, fun a x hx => (h.2 a x hx).trans (by
    constructor
    · rintro ⟨i', k', s, c, h1, h2, h3, h4⟩; exact ⟨i', k', s, c, h1, h2, h3, by omega⟩
    · rintro ⟨i', k', s, c, h1, h2, h3, h4⟩
      have := (List.getElem?_eq_some_iff.1 h1).1
      exact ⟨i', k', s, c, h1, h2, h3, by omega⟩)⟩
theorem nodup_at {L : List (Pm n)} (h : L.Nodup) {i j : Nat} {x : Pm n} (hi : L[i]? = some x) (hj : L[j]? = some x) : i = j :=
  (List.getElem?_inj (List.getElem?_eq_some_iff.1 hi).1 h).1 (hi.trans hj.symm)
theorem SeenI.step {G1 G2 : Pm n → Prop} {E S C : List (Pm n)} {i k a : Nat} {bs : List Bool} {s c : Pm n} (h : SeenI E S C i k bs) (hG : IsG G1) (hE : E.Pairwise lexLt) (hS : AllE S G1) (hC : CosSet G1 G2 C) (hs : S[k]? = some s) (hc : C[i]? = some c) (ha : E[a]? = some (s.mul c)) :
    bs[a]? = some false ∧ SeenI E S C i (k + 1) (bs.set a true) := by
  have hal := (List.getElem?_eq_some_iff.1 ha).1
  have hnS := sorted_nodup hS.1
  have hnC := sorted_nodup hC.1
  have hnE := sorted_nodup hE
  have hsg := (hS.2 s).1 (List.mem_of_getElem? hs)
  have key : ∀ i' k' s' c', S[k']? = some s' → C[i']? = some c' → s.mul c = s'.mul c' → i' = i ∧ k' = k := fun i' k' s' c' h1 h2 e => by
    obtain ⟨e1, e2⟩ := cos_inj hG hC hsg ((hS.2 s').1 (List.mem_of_getElem? h1)) (List.mem_of_getElem? hc) (List.mem_of_getElem? h2) e
    subst e1; subst e2
    exact ⟨nodup_at hnC h2 hc, nodup_at hnS h1 hs⟩
  refine ⟨?_, by rw [List.length_set]; exact h.1, fun b x hx => ?_⟩
  · have hbl : a < bs.length := by rw [h.1]; exact hal
    cases hb : bs[a]'hbl with
    | false => rw [List.getElem?_eq_getElem hbl, hb]
    | true =>
      obtain ⟨i', k', s', c', h1, h2, h3, h4⟩ := (h.2 a _ ha).1 (by rw [List.getElem?_eq_getElem hbl, hb])
      obtain ⟨rfl, rfl⟩ := key i' k' s' c' h1 h2 h3
      omega
  · have hbE := (List.getElem?_eq_some_iff.1 hx).1
    rw [List.getElem?_set]
    by_cases hab : a = b
    · subst hab
      rw [if_pos rfl, if_pos (by rw [h.1]; exact hal)]
      rw [ha] at hx
      cases hx
      exact ⟨fun _ => ⟨i, k, s, c, hs, hc, rfl, by omega⟩, fun _ => rfl⟩
    · rw [if_neg hab, h.2 b x hx]
      constructor
      · rintro ⟨i', k', s', c', h1, h2, h3, h4⟩; exact ⟨i', k', s', c', h1, h2, h3, by omega⟩
      · rintro ⟨i', k', s', c', h1, h2, h3, h4⟩
        refine ⟨i', k', s', c', h1, h2, h3, ?_⟩
        rcases h4 with h4 | ⟨rfl, h4⟩
        · exact .inl h4
        · rcases Nat.lt_or_ge k' k with h5 | h5
          · exact .inr ⟨rfl, h5⟩
          · have : k' = k := by omega
            subst this
            rw [hs] at h1; cases h1
            rw [hc] at h2; cases h2
            rw [h3] at hx
            exact absurd (nodup_at hnE ha hx) hab
theorem cos_mul {G1 G2 : Pm n → Prop} {O O2 : Nat → List Nat} {R R2 : Nat → Nat → Pm n} {E S C : List (Pm n)} (h : ChG G1 O R) (h2 : ChG G2 O2 R2) (hs : ∀ x, G1 x → G2 x) (hE : AllE E G2) (hS : AllE S G1) (hC : CosSet G1 G2 C) : C.length * S.length = E.length := by
  have e : cosF O R E = C := sorted_ext (hE.1.filter _) hC.1 fun x => (mem_cosF.trans (and_congr (hE.2 x) (leastC_iff h x).symm)).trans (hC.2 x).symm
  rw [cos_count h (sorted_nodup hS.1) (sorted_nodup hE.1) hS.2 hE.2 h2.isG hs, e]
theorem cos_quot {G1 G2 : Pm n → Prop} {O O2 : Nat → List Nat} {R R2 : Nat → Nat → Pm n} {E S C : List (Pm n)} (h : ChG G1 O R) (h2 : ChG G2 O2 R2) (hs : ∀ x, G1 x → G2 x) (hE : AllE E G2) (hS : AllE S G1) (hC : CosSet G1 G2 C) : szF O2 n 0 / szF O n 0 = C.length := by
  rw [hE.len h2, hS.len h, ← cos_mul h h2 hs hE hS hC, Nat.mul_div_cancel _ (List.length_pos_of_mem ((hS.2 _).2 h.isG.one))]
def LeaI (E : List (Pm n)) (x a : Pm n) (i : Nat) (b : Bool) : Prop := b = true ↔ ∃ (k : Nat) (g : Pm n), k < i ∧ E[k]? = some g ∧ g.mul x = a
theorem LeaI.start (E : List (Pm n)) (x a : Pm n) : LeaI E x a 0 false := ⟨fun h => (by cases h), fun ⟨k, g, h, _⟩ => absurd h (by omega)⟩
theorem LeaI.step {E : List (Pm n)} {x a g : Pm n} {i : Nat} {b t : Bool} (h : LeaI E x a i b) (hg : E[i]? = some g) (ht : t = true ↔ g.mul x = a) : LeaI E x a (i + 1) (b || t) := by
  unfold LeaI at *
  rw [Bool.or_eq_true, h, ht]
  constructor
  · rintro (⟨k, q, h1, h2, h3⟩ | e)
    · exact ⟨k, q, by omega, h2, h3⟩
    · exact ⟨i, g, by omega, hg, e⟩
  · rintro ⟨k, q, h1, h2, h3⟩
    rcases Nat.lt_or_ge k i with h4 | h4
    · exact .inl ⟨k, q, h4, h2, h3⟩
    · have : k = i := by omega
      subst this
      rw [hg] at h2; cases h2
      exact .inr h3
theorem LeaI.fin {G : Pm n → Prop} {E : List (Pm n)} {x a : Pm n} {b : Bool} (h : LeaI E x a E.length b) (hE : ∀ x, x ∈ E ↔ G x) : b = true ↔ ∃ g, G g ∧ g.mul x = a := by
  refine h.trans ⟨?_, ?_⟩
  · rintro ⟨k, g, _, h2, h3⟩
    exact ⟨g, (hE g).1 (List.mem_of_getElem? h2), h3⟩
  · rintro ⟨g, h1, h2⟩
    obtain ⟨k, hk⟩ := List.mem_iff_getElem?.1 ((hE g).2 h1)
    exact ⟨k, g, (List.getElem?_eq_some_iff.1 hk).1, hk, h2⟩
end
theorem allV4 : AllE [litP 4 [0, 1, 2, 3], litP 4 [1, 0, 3, 2], litP 4 [2, 3, 0, 1], litP 4 [3, 2, 1, 0]] (Grp (· ∈ gV4)) := by
  have h := allE_of tV4
  rwa [show elsF (orbO (tabTw (tabOf 4 eV4))) (PlainPm.repT (tabTw (tabOf 4 eV4))) 4 0 (PlainPm.one 4) = [litP 4 [0, 1, 2, 3], litP 4 [1, 0, 3, 2], litP 4 [2, 3, 0, 1], litP 4 [3, 2, 1, 0]] by decide +kernel] at h
theorem allS4_2 : (elsF (orbO (tabTw (tabOf 4 eS4))) (PlainPm.repT (tabTw (tabOf 4 eS4))) 4 0 (PlainPm.one 4))[2]? = some (litP 4 [0, 2, 1, 3]) := by decide +kernel
theorem subVS (x : Pm 4) (h : Grp (· ∈ gV4) x) : Grp (· ∈ gS4) x :=
  Grp.sub Grp.isG (fun s hs => ((allE_of tS4).2 s).1 ((by decide +kernel : ∀ s ∈ gV4, s ∈ elsF (orbO (tabTw (tabOf 4 eS4))) (PlainPm.repT (tabTw (tabOf 4 eS4))) 4 0 (PlainPm.one 4)) s hs)) h
theorem subZS (x : Pm 4) (h : Grp (· ∈ gZ2) x) : Grp (· ∈ gS4) x :=
  Grp.sub Grp.isG (fun s hs => ((allE_of tS4).2 s).1 ((by decide +kernel : ∀ s ∈ gZ2, s ∈ elsF (orbO (tabTw (tabOf 4 eS4))) (PlainPm.repT (tabTw (tabOf 4 eS4))) 4 0 (PlainPm.one 4)) s hs)) h
theorem notZV : ¬ ∀ x : Pm 4, Grp (· ∈ gZ2) x → Grp (· ∈ gV4) x := fun h =>
  absurd ((allV4.2 _).2 (h (litP 4 [0, 1, 3, 2]) (Grp.base (by simp [gZ2])))) (by decide +kernel)
theorem notV : ¬ Grp (· ∈ gV4) (litP 4 [1, 0, 2, 3]) := fun h => absurd ((allV4.2 _).2 h) (by decide +kernel)
theorem lstV4 : lstC (orbO (tabTw (tabOf 4 eV4))) (PlainPm.repT (tabTw (tabOf 4 eV4))) (litP 4 [1, 0, 2, 3]) = litP 4 [0, 1, 3, 2] := by decide +kernel
theorem lstS4 : lstC (orbO (tabTw (tabOf 4 eS4))) (PlainPm.repT (tabTw (tabOf 4 eS4))) (litP 4 [3, 1, 2, 0]) = litP 4 [0, 1, 2, 3] := by decide +kernel
theorem leastV {z : Pm 4} (h : LeastOf (Grp (· ∈ gV4)) (litP 4 [1, 0, 2, 3]) z) : z = litP 4 [0, 1, 3, 2] := (h.uniq (.of (tV4.chG Grp.isG) _)).trans lstV4
theorem leastS {z : Pm 4} (h : LeastOf (Grp (· ∈ gS4)) (litP 4 [3, 1, 2, 0]) z) : z = litP 4 [0, 1, 2, 3] := (h.uniq (.of (tS4.chG Grp.isG) _)).trans lstS4
def cosVS : List (Pm 4) := [litP 4 [0, 1, 2, 3], litP 4 [0, 1, 3, 2], litP 4 [0, 2, 1, 3], litP 4 [0, 2, 3, 1], litP 4 [0, 3, 1, 2], litP 4 [0, 3, 2, 1]]
theorem cosV : CosSet (Grp (· ∈ gV4)) (Grp (· ∈ gS4)) cosVS := by
  have h : CosSet (Grp (· ∈ gV4)) (Grp (· ∈ gS4)) (cosF (orbO (tabTw (tabOf 4 eV4))) (PlainPm.repT (tabTw (tabOf 4 eV4))) (elsF (orbO (tabTw (tabOf 4 eS4))) (PlainPm.repT (tabTw (tabOf 4 eS4))) 4 0 (PlainPm.one 4))) := cos_of (tV4.chG Grp.isG) (tS4.chG Grp.isG)
  rwa [show cosF (orbO (tabTw (tabOf 4 eV4))) (PlainPm.repT (tabTw (tabOf 4 eV4))) (elsF (orbO (tabTw (tabOf 4 eS4))) (PlainPm.repT (tabTw (tabOf 4 eS4))) 4 0 (PlainPm.one 4)) = cosVS by decide +kernel] at h
theorem cosZ : ∃ C, CosSet (Grp (· ∈ gZ2)) (Grp (· ∈ gS4)) C ∧ C.length = 12 :=
  ⟨_, cos_of (tZ2.chG Grp.isG) (tS4.chG Grp.isG), show (cosF (orbO (tabTw (tabOf 4 eZ2))) (PlainPm.repT (tabTw (tabOf 4 eZ2))) (elsF (orbO (tabTw (tabOf 4 eS4))) (PlainPm.repT (tabTw (tabOf 4 eS4))) 4 0 (PlainPm.one 4))).length = 12 by decide +kernel⟩
theorem numVS {t : ByteArray} (h : ∀ O1 R1 O2 R2, ChG (Grp (· ∈ gV4)) O1 R1 → ChG (Grp (· ∈ gS4)) O2 R2 → IsNum t (szF O2 4 0 / szF O1 4 0)) : t = ⟨#[54]⟩ := by
  have h1 := h _ _ _ _ (tV4.chG Grp.isG) (tS4.chG Grp.isG)
  rw [cos_quot (tV4.chG Grp.isG) (tS4.chG Grp.isG) subVS (allE_of tS4) allV4 cosV] at h1
  exact h1.ext ⟨[6], ⟨by simp, by simp, by simp⟩, rfl, rfl⟩
end Go.Proofs.YtbejhkojdiadaaaGreatDoor
namespace Go.Proofs.YtbejhkojdiadaaaGreatDoor
open Go.RowKit PlainPm
variable {n : Nat}
theorem same20p (hn : n ≤ 64) {w : World} {va vb : Value} {x y : Pm n} (ha : PmV w [] va x) (hb : PmV w [] vb y) : Calls Tryz.prog 20 #[va, vb] w fun e w' => e = .returned (.bool (decide (x = y))) ∧ Below w.heap.size w w' := by
  obtain ⟨a, c, rfl, h1⟩ := ha.ints (by omega)
  obtain ⟨b, d, rfl, h2⟩ := hb.ints (by omega)
  refine (same20 _ _ c d _ _ w h1 h2).mono ?_
  rintro e w' ⟨rfl, q, rfl⟩
  refine ⟨?_, below_self_drewN _ _⟩
  by_cases e : x = y
  · subst e; simp
  · rw [decide_eq_false e, decide_eq_false fun h => e (Pm.ext' h)]
end Go.Proofs.YtbejhkojdiadaaaGreatDoor
namespace Go.Proofs.YtbejhkojdiadaaaGreatDoor
open Go.RowKit PlainPm
section
variable {w : World} {v v' u u' : Value}
abbrev GV (w : World) (v : Value) : Prop := GrG (n := 4) w v (Grp (· ∈ gV4))
abbrev GS (w : World) (v : Value) : Prop := GrG (n := 4) w v (Grp (· ∈ gS4))
abbrev GZ (w : World) (v : Value) : Prop := GrG (n := 4) w v (Grp (· ∈ gZ2))
theorem k18a (h : GS w v) : Calls Tryz.prog 18 #[v, .int .i64 2] w fun e w' => ∃ a c, e = .returned (.tuple #[.slice a 4 c, .int .i64 0]) ∧ PmV w' [] (.slice a 4 c) (litP 4 [0, 2, 1, 3]) ∧ Below w.heap.size w w' :=
  unr_in (n := 4) (k := 2) (by omega) Grp.isG h (allE_of tS4) allS4_2
theorem k18b (h : GV w v) : Calls Tryz.prog 18 #[v, .int .i64 3] w fun e w' => ∃ a c, e = .returned (.tuple #[.slice a 4 c, .int .i64 0]) ∧ PmV w' [] (.slice a 4 c) (litP 4 [3, 2, 1, 0]) ∧ Below w.heap.size w w' :=
  unr_in (n := 4) (k := 3) (by omega) Grp.isG h allV4 rfl
theorem k18c (h : GV w v) : Calls Tryz.prog 18 #[v, .int .i64 4] w fun e w' => ∃ a c, e = .returned (.tuple #[.slice a 0 c, .int .i64 2]) ∧ Below w.heap.size w w' :=
  unr_out (n := 4) (k := 4) (by omega) Grp.isG h allV4 (by decide)
theorem k19 (h : GV w v) (hx : PmV w [] u (litP 4 [1, 0, 2, 3])) : Calls Tryz.prog 19 #[v, u] w fun e w' => e = .returned (.tuple #[.int .i64 0, .int .i64 18]) ∧ Below w.heap.size w w' :=
  rank_out (n := 4) (by omega) Grp.isG h notV hx
theorem k20 {x : Pm 4} (h : PmV w [] u x) (h' : PmV w [] u' x) : Calls Tryz.prog 20 #[u, u'] w fun e w' => e = .returned (.bool true) ∧ Below w.heap.size w w' := by
  have := same20p (by omega) h h'
  simpa using this
theorem k10 (h : GV w v) : Calls Tryz.prog 10 #[v] w fun e w' => ∃ a c, e = .returned (.tuple #[.slice a 4 c, .int .i64 0]) ∧ PmsV w' [] (.slice a 4 c) [litP 4 [0, 1, 2, 3], litP 4 [1, 0, 3, 2], litP 4 [2, 3, 0, 1], litP 4 [3, 2, 1, 0]] ∧ Below w.heap.size w w' :=
  list_in (n := 4) (by omega) Grp.isG h allV4 (by decide)
theorem k16 {L : List (Pm 4)} (hl : L.length ≤ 1000000) (h : PmsV w [] u L) (h' : PmsV w [] u' L) : Calls Tryz.prog 16 #[u, u'] w fun e w' => e = .returned (.bool true) ∧ Below w.heap.size w w' :=
  (same47p (by omega) hl hl h h').mono fun _ _ ⟨he, hb⟩ => ⟨he.true_ rfl, hb⟩
theorem k21a (h : GV w v) (hx : PmV w [] u (litP 4 [1, 0, 2, 3])) : Calls Tryz.prog 21 #[v, u] w fun e w' => ∃ a c, e = .returned (.tuple #[.slice a 4 c, .int .i64 0]) ∧ PmV w' [] (.slice a 4 c) (litP 4 [0, 1, 3, 2]) ∧ Below w.heap.size w w' :=
  (least_in (n := 4) (by omega) Grp.isG h hx).mono fun _ _ ⟨a, c, z, h1, h2, h3, h4⟩ => ⟨a, c, h1, leastV h2 ▸ h3, h4⟩
theorem k21b (h : GS w v) (hx : PmV w [] u (litP 4 [3, 1, 2, 0])) : Calls Tryz.prog 21 #[v, u] w fun e w' => ∃ a c, e = .returned (.tuple #[.slice a 4 c, .int .i64 0]) ∧ PmV w' [] (.slice a 4 c) (litP 4 [0, 1, 2, 3]) ∧ Below w.heap.size w w' :=
  (least_in (n := 4) (by omega) Grp.isG h hx).mono fun _ _ ⟨a, c, z, h1, h2, h3, h4⟩ => ⟨a, c, h1, leastS h2 ▸ h3, h4⟩
theorem k12a (h : GV w v) (h' : GS w v') : Calls Tryz.prog 12 #[v, v'] w fun e w' => e = .returned (.tuple #[.string ⟨#[54]⟩, .int .i64 0]) ∧ Below w.heap.size w w' :=
  (index12y (n := 4) (by omega) Grp.isG Grp.isG h h' subVS).mono fun _ _ ⟨t, h1, h2, h3⟩ => ⟨by rw [h1, numVS h2], h3⟩
theorem k12b (h : GZ w v) (h' : GV w v') : Calls Tryz.prog 12 #[v, v'] w fun e w' => e = .returned (.tuple #[.string ⟨#[]⟩, .int .i64 18]) ∧ Below w.heap.size w w' :=
  index12n (n := 4) (by omega) Grp.isG Grp.isG h h' notZV
theorem k14 {G1 : Pm 4 → Prop} (hG : IsG G1) (h : GrG w v G1) (h' : GS w v') (hs : ∀ x, G1 x → Grp (· ∈ gS4) x) {CL : List (Pm 4)} (hC : CosSet G1 (Grp (· ∈ gS4)) CL) {m : Nat} (hm : CL.length = m) (h5 : m ≤ 5040) :
    Calls Tryz.prog 14 #[v, v'] w fun e w' => ∃ a c, e = .returned (.tuple #[.slice a m c, .int .i64 0]) ∧ PmsV w' [] (.slice a m c) CL ∧ Below w.heap.size w w' :=
  (cosets14 (n := 4) (by omega) hG Grp.isG h h' hs hC).mono fun e w' ⟨x, c, h1, h2, h3⟩ => by
    subst h1
    rcases h2 with ⟨_, rfl, us, k1, k2⟩ | ⟨k1, _⟩
    · have hul : us.length = m := k2.1.trans hm
      obtain ⟨a, d, rfl, _⟩ := k1.row (by rw [hul]; unfold maxLen; omega)
      have hv := pms_ownB k1 k2 (by omega)
      rw [hul] at hv
      exact ⟨a, d, by rw [hul], hv, h3⟩
    · omega
end
theorem lit_pmsP {n : Nat} {V : World} {Y m : Nat} (hY : V.heap.size = Y) {us : List Value} {L : List (Pm n)} (hus : us.length = m) (hm : m ≤ 1000) (hp : PmL V [] us L) : PmsV (V.alloc (.cells us.toArray 41)) [] (.slice (some ⟨Y, 0, none⟩) m m) L :=
  ⟨_, m, us, by rw [← hp.1, hus], lit_row hY hus hm, hp.stp (Stp.below (alloc_b (Below.refl _ _) _))⟩
theorem lit_add {n : Nat} {V : World} {X : Nat} (hX : V.heap.size = X) {us : List Value} {L : List (Pm n)} (hp : PmL V [] us L) {x : Pm n} {cx : Array Value} (hcx : (ints x.l).toArray = cx) : PmL (V.alloc (.cells cx 3)) [] (us ++ [.slice (some ⟨X, 0, none⟩) n n]) (L ++ [x]) :=
  (hp.stp (Stp.below (alloc_b (Below.refl _ _) _))).snoc (lit_pm hX hcx)
theorem pml_nil {n : Nat} (V : World) : PmL (n := n) V [] [] [] := ⟨rfl, fun k s hs => by simp at hs⟩
theorem lit_pms4 {n : Nat} {w : World} {X : Nat} (hX : w.heap.size = X) {x1 x2 x3 x4 : Pm n} {c1 c2 c3 c4 : Array Value} (h1 : (ints x1.l).toArray = c1) (h2 : (ints x2.l).toArray = c2) (h3 : (ints x3.l).toArray = c3) (h4 : (ints x4.l).toArray = c4) :
    PmsV (((((w.alloc (.cells c1 3)).alloc (.cells c2 3)).alloc (.cells c3 3)).alloc (.cells c4 3)).alloc (.cells #[.slice (some ⟨X, 0, none⟩) n n, .slice (some ⟨X + 1, 0, none⟩) n n, .slice (some ⟨X + 1 + 1, 0, none⟩) n n, .slice (some ⟨X + 1 + 1 + 1, 0, none⟩) n n] 41)) [] (.slice (some ⟨X + 1 + 1 + 1 + 1, 0, none⟩) 4 4) [x1, x2, x3, x4] := by
  have p0 := pml_nil (n := n) w
  have p1 := lit_add (X := X) (by first | exact hX | (simp; omega)) p0 h1
  have p2 := lit_add (X := X + 1) (by first | exact hX | (simp; omega)) p1 h2
  have p3 := lit_add (X := X + 1 + 1) (by first | exact hX | (simp; omega)) p2 h3
  have p4 := lit_add (X := X + 1 + 1 + 1) (by first | exact hX | (simp; omega)) p3 h4
  exact lit_pmsP (m := 4) (by simp; omega) rfl (by omega) p4
theorem lit_pms6 {n : Nat} {w : World} {X : Nat} (hX : w.heap.size = X) {x1 x2 x3 x4 x5 x6 : Pm n} {c1 c2 c3 c4 c5 c6 : Array Value} (h1 : (ints x1.l).toArray = c1) (h2 : (ints x2.l).toArray = c2) (h3 : (ints x3.l).toArray = c3) (h4 : (ints x4.l).toArray = c4) (h5 : (ints x5.l).toArray = c5) (h6 : (ints x6.l).toArray = c6) :
    PmsV (((((((w.alloc (.cells c1 3)).alloc (.cells c2 3)).alloc (.cells c3 3)).alloc (.cells c4 3)).alloc (.cells c5 3)).alloc (.cells c6 3)).alloc (.cells #[.slice (some ⟨X, 0, none⟩) n n, .slice (some ⟨X + 1, 0, none⟩) n n, .slice (some ⟨X + 1 + 1, 0, none⟩) n n, .slice (some ⟨X + 1 + 1 + 1, 0, none⟩) n n, .slice (some ⟨X + 1 + 1 + 1 + 1, 0, none⟩) n n, .slice (some ⟨X + 1 + 1 + 1 + 1 + 1, 0, none⟩) n n] 41)) [] (.slice (some ⟨X + 1 + 1 + 1 + 1 + 1 + 1, 0, none⟩) 6 6) [x1, x2, x3, x4, x5, x6] := by
  have p0 := pml_nil (n := n) w
  have p1 := lit_add (X := X) (by first | exact hX | (simp; omega)) p0 h1
  have p2 := lit_add (X := X + 1) (by first | exact hX | (simp; omega)) p1 h2
  have p3 := lit_add (X := X + 1 + 1) (by first | exact hX | (simp; omega)) p2 h3
  have p4 := lit_add (X := X + 1 + 1 + 1) (by first | exact hX | (simp; omega)) p3 h4
  have p5 := lit_add (X := X + 1 + 1 + 1 + 1) (by first | exact hX | (simp; omega)) p4 h5
  have p6 := lit_add (X := X + 1 + 1 + 1 + 1 + 1) (by first | exact hX | (simp; omega)) p5 h6
  exact lit_pmsP (m := 6) (by simp; omega) rfl (by omega) p6
set_option maxRecDepth 100000 in
set_option maxHeartbeats 16000000 in
theorem rankKnownW {w : World} : Calls Tryz.prog 4 #[] w fun e w' => e = .returned (.bool true) ∧ Below w.heap.size w w' := by
  obtain ⟨CZ, hCZ, hCl⟩ := cosZ
  have HZ := Lib.hid (And.intro hCZ hCl)
  clear hCZ hCl
  go_enter Tryz.func4, Tryz.ntmps4
  go_wp2_with (first
    | (go_at_call 9; refine (awake11 ).mono ?_
       rintro e28 w28 ⟨rfl, k⟩
       have sx : Below w27.heap.size w27 w28 := k
       have bt : Below W2.heap.size W2 w28 := below_trans S17.out.1 sx
       have S18 := Lib.hid (And.intro bt sx)
       clear sx bt k)
    | (go_at_call 16; refine (k16 (by decide) (K14.out.below (below_trans (below_trans S15.out.2 S16.out.2) (alloc_b (alloc_b (alloc_b (alloc_b (alloc_b (alloc_b (alloc_b (Below.refl _ _) _) _) _) _) _) _) _))) (lit_pms6 rfl (lit_ints (n := 4) (l := [0, 1, 2, 3]) (by decide) rfl) (lit_ints (n := 4) (l := [0, 1, 3, 2]) (by decide) rfl) (lit_ints (n := 4) (l := [0, 2, 1, 3]) (by decide) rfl) (lit_ints (n := 4) (l := [0, 2, 3, 1]) (by decide) rfl) (lit_ints (n := 4) (l := [0, 3, 1, 2]) (by decide) rfl) (lit_ints (n := 4) (l := [0, 3, 2, 1]) (by decide) rfl))).mono ?_
       rintro e27 w27 ⟨rfl, k⟩
       have sx : Below w26.heap.size w26 w27 := below_trans (alloc_b (alloc_b (alloc_b (alloc_b (alloc_b (alloc_b (alloc_b (Below.refl _ _) _) _) _) _) _) _) _) k
       have bt : Below W2.heap.size W2 w27 := below_trans S16.out.1 sx
       have S17 := Lib.hid (And.intro bt sx)
       clear sx bt k)
    | (go_at_call 14; refine (k14 Grp.isG (HG.out.2.2.1.below (below_trans (below_trans (below_trans (below_trans (below_trans (below_trans (below_trans (below_trans (below_trans (below_trans (below_trans (below_trans (below_trans (below_trans S1.out.2 S2.out.2) S3.out.2) S4.out.2) S5.out.2) S6.out.2) S7.out.2) S8.out.2) S9.out.2) S10.out.2) S11.out.2) S12.out.2) S13.out.2) S14.out.2) S15.out.2)) (HG.out.1.below (below_trans (below_trans (below_trans (below_trans (below_trans (below_trans (below_trans (below_trans (below_trans (below_trans (below_trans (below_trans (below_trans (below_trans S1.out.2 S2.out.2) S3.out.2) S4.out.2) S5.out.2) S6.out.2) S7.out.2) S8.out.2) S9.out.2) S10.out.2) S11.out.2) S12.out.2) S13.out.2) S14.out.2) S15.out.2)) subZS HZ.out.1 (m := 12) HZ.out.2 (by omega)).mono ?_
       rintro e26 w26 ⟨f16, g16, rfl, kp, k⟩
       have sx : Below w25.heap.size w25 w26 := k
       have bt : Below W2.heap.size W2 w26 := below_trans S15.out.1 sx
       have S16 := Lib.hid (And.intro bt sx)
       have K16 := Lib.hid kp; clear kp
       clear m15_1_0 m15_1_1 m15_1_2 m15_3_0 m15_3_1 m15_3_2
       clear sx bt k)
    | (go_at_call 12; refine (k12b (HG.out.2.2.1.below (below_trans (below_trans (below_trans (below_trans (below_trans (below_trans (below_trans (below_trans (below_trans (below_trans (below_trans (below_trans (below_trans S1.out.2 S2.out.2) S3.out.2) S4.out.2) S5.out.2) S6.out.2) S7.out.2) S8.out.2) S9.out.2) S10.out.2) S11.out.2) S12.out.2) S13.out.2) S14.out.2)) (HG.out.2.1.below (below_trans (below_trans (below_trans (below_trans (below_trans (below_trans (below_trans (below_trans (below_trans (below_trans (below_trans (below_trans (below_trans S1.out.2 S2.out.2) S3.out.2) S4.out.2) S5.out.2) S6.out.2) S7.out.2) S8.out.2) S9.out.2) S10.out.2) S11.out.2) S12.out.2) S13.out.2) S14.out.2))).mono ?_
       rintro e25 w25 ⟨rfl, k⟩
       have sx : Below w24.heap.size w24 w25 := k
       have bt : Below W2.heap.size W2 w25 := below_trans S14.out.1 sx
       have S15 := Lib.hid (And.intro bt sx)
       clear m14_2_0 m14_2_1 m14_2_2 m14_3_0 m14_3_1 m14_3_2
       have zz := (bt.block _ (Array.getElem?_eq_some_iff.1 HB.out.1).1).trans HB.out.1
       obtain ⟨m15_1_0, m15_1_1, m15_1_2, _⟩ := box_cells zz; clear zz
       have zz := (bt.block _ (Array.getElem?_eq_some_iff.1 HB.out.2.2).1).trans HB.out.2.2
       obtain ⟨m15_3_0, m15_3_1, m15_3_2, _⟩ := box_cells zz; clear zz
       clear sx bt k)
    | (go_at_call 14; refine (k14 Grp.isG (HG.out.2.1.below (below_trans (below_trans (below_trans (below_trans (below_trans (below_trans (below_trans (below_trans (below_trans (below_trans (below_trans (below_trans S1.out.2 S2.out.2) S3.out.2) S4.out.2) S5.out.2) S6.out.2) S7.out.2) S8.out.2) S9.out.2) S10.out.2) S11.out.2) S12.out.2) S13.out.2)) (HG.out.1.below (below_trans (below_trans (below_trans (below_trans (below_trans (below_trans (below_trans (below_trans (below_trans (below_trans (below_trans (below_trans S1.out.2 S2.out.2) S3.out.2) S4.out.2) S5.out.2) S6.out.2) S7.out.2) S8.out.2) S9.out.2) S10.out.2) S11.out.2) S12.out.2) S13.out.2)) subVS cosV (m := 6) rfl (by omega)).mono ?_
       rintro e24 w24 ⟨f14, g14, rfl, kp, k⟩
       have sx : Below w23.heap.size w23 w24 := k
       have bt : Below W2.heap.size W2 w24 := below_trans S13.out.1 sx
       have S14 := Lib.hid (And.intro bt sx)
       have K14 := Lib.hid kp; clear kp
       clear m13_1_0 m13_1_1 m13_1_2 m13_2_0 m13_2_1 m13_2_2
       have zz := (bt.block _ (Array.getElem?_eq_some_iff.1 HB.out.2.1).1).trans HB.out.2.1
       obtain ⟨m14_2_0, m14_2_1, m14_2_2, _⟩ := box_cells zz; clear zz
       have zz := (bt.block _ (Array.getElem?_eq_some_iff.1 HB.out.2.2).1).trans HB.out.2.2
       obtain ⟨m14_3_0, m14_3_1, m14_3_2, _⟩ := box_cells zz; clear zz
       clear sx bt k)
    | (go_at_call 12; refine (k12a (HG.out.2.1.below (below_trans (below_trans (below_trans (below_trans (below_trans (below_trans (below_trans (below_trans (below_trans (below_trans (below_trans S1.out.2 S2.out.2) S3.out.2) S4.out.2) S5.out.2) S6.out.2) S7.out.2) S8.out.2) S9.out.2) S10.out.2) S11.out.2) S12.out.2)) (HG.out.1.below (below_trans (below_trans (below_trans (below_trans (below_trans (below_trans (below_trans (below_trans (below_trans (below_trans (below_trans S1.out.2 S2.out.2) S3.out.2) S4.out.2) S5.out.2) S6.out.2) S7.out.2) S8.out.2) S9.out.2) S10.out.2) S11.out.2) S12.out.2))).mono ?_
       rintro e23 w23 ⟨rfl, k⟩
       have sx : Below w22.heap.size w22 w23 := k
       have bt : Below W2.heap.size W2 w23 := below_trans S12.out.1 sx
       have S13 := Lib.hid (And.intro bt sx)
       clear m12_1_0 m12_1_1 m12_1_2 m12_2_0 m12_2_1 m12_2_2
       have zz := (bt.block _ (Array.getElem?_eq_some_iff.1 HB.out.1).1).trans HB.out.1
       obtain ⟨m13_1_0, m13_1_1, m13_1_2, _⟩ := box_cells zz; clear zz
       have zz := (bt.block _ (Array.getElem?_eq_some_iff.1 HB.out.2.1).1).trans HB.out.2.1
       obtain ⟨m13_2_0, m13_2_1, m13_2_2, _⟩ := box_cells zz; clear zz
       clear sx bt k)
    | (go_at_call 20; refine (k20 (K9.out.below (below_trans (below_trans S10.out.2 S11.out.2) (alloc_b (Below.refl _ _) _))) (lit_pm (n := 4) rfl (lit_ints (l := [0, 1, 2, 3]) (by decide) rfl))).mono ?_
       rintro e22 w22 ⟨rfl, k⟩
       have sx : Below w21.heap.size w21 w22 := below_trans (alloc_b (Below.refl _ _) _) k
       have bt : Below W2.heap.size W2 w22 := below_trans S11.out.1 sx
       have S12 := Lib.hid (And.intro bt sx)
       have zz := (bt.block _ (Array.getElem?_eq_some_iff.1 HB.out.1).1).trans HB.out.1
       obtain ⟨m12_1_0, m12_1_1, m12_1_2, _⟩ := box_cells zz; clear zz
       have zz := (bt.block _ (Array.getElem?_eq_some_iff.1 HB.out.2.1).1).trans HB.out.2.1
       obtain ⟨m12_2_0, m12_2_1, m12_2_2, _⟩ := box_cells zz; clear zz
       clear sx bt k)
    | (go_at_call 20; refine (k20 (K8.out.below (below_trans (below_trans S9.out.2 S10.out.2) (alloc_b (Below.refl _ _) _))) (lit_pm (n := 4) rfl (lit_ints (l := [0, 1, 3, 2]) (by decide) rfl))).mono ?_
       rintro e21 w21 ⟨rfl, k⟩
       have sx : Below w20.heap.size w20 w21 := below_trans (alloc_b (Below.refl _ _) _) k
       have bt : Below W2.heap.size W2 w21 := below_trans S10.out.1 sx
       have S11 := Lib.hid (And.intro bt sx)
       clear sx bt k)
    | (go_at_call 16; refine (k16 (by decide) (K7.out.below (below_trans (below_trans S8.out.2 S9.out.2) (alloc_b (alloc_b (alloc_b (alloc_b (alloc_b (Below.refl _ _) _) _) _) _) _))) (lit_pms4 rfl (lit_ints (n := 4) (l := [0, 1, 2, 3]) (by decide) rfl) (lit_ints (n := 4) (l := [1, 0, 3, 2]) (by decide) rfl) (lit_ints (n := 4) (l := [2, 3, 0, 1]) (by decide) rfl) (lit_ints (n := 4) (l := [3, 2, 1, 0]) (by decide) rfl))).mono ?_
       rintro e20 w20 ⟨rfl, k⟩
       have sx : Below w19.heap.size w19 w20 := below_trans (alloc_b (alloc_b (alloc_b (alloc_b (alloc_b (Below.refl _ _) _) _) _) _) _) k
       have bt : Below W2.heap.size W2 w20 := below_trans S9.out.1 sx
       have S10 := Lib.hid (And.intro bt sx)
       clear sx bt k)
    | (go_at_call 21; refine (k21b (HG.out.1.below (below_trans (below_trans (below_trans (below_trans (below_trans (below_trans (below_trans (below_trans S1.out.2 S2.out.2) S3.out.2) S4.out.2) S5.out.2) S6.out.2) S7.out.2) S8.out.2) (alloc_b (Below.refl _ _) _))) (lit_pm (n := 4) rfl (lit_ints (l := [3, 1, 2, 0]) (by decide) rfl))).mono ?_
       rintro e19 w19 ⟨f9, g9, rfl, kp, k⟩
       have sx : Below w18.heap.size w18 w19 := below_trans (alloc_b (Below.refl _ _) _) k
       have bt : Below W2.heap.size W2 w19 := below_trans S8.out.1 sx
       have S9 := Lib.hid (And.intro bt sx)
       have K9 := Lib.hid kp; clear kp
       clear m8_1_0 m8_1_1 m8_1_2
       clear sx bt k)
    | (go_at_call 21; refine (k21a (HG.out.2.1.below (below_trans (below_trans (below_trans (below_trans (below_trans (below_trans (below_trans S1.out.2 S2.out.2) S3.out.2) S4.out.2) S5.out.2) S6.out.2) S7.out.2) (alloc_b (Below.refl _ _) _))) (lit_pm (n := 4) rfl (lit_ints (l := [1, 0, 2, 3]) (by decide) rfl))).mono ?_
       rintro e18 w18 ⟨f8, g8, rfl, kp, k⟩
       have sx : Below w17.heap.size w17 w18 := below_trans (alloc_b (Below.refl _ _) _) k
       have bt : Below W2.heap.size W2 w18 := below_trans S7.out.1 sx
       have S8 := Lib.hid (And.intro bt sx)
       have K8 := Lib.hid kp; clear kp
       clear m7_2_0 m7_2_1 m7_2_2
       have zz := (bt.block _ (Array.getElem?_eq_some_iff.1 HB.out.1).1).trans HB.out.1
       obtain ⟨m8_1_0, m8_1_1, m8_1_2, _⟩ := box_cells zz; clear zz
       clear sx bt k)
    | (go_at_call 10; refine (k10 (HG.out.2.1.below (below_trans (below_trans (below_trans (below_trans (below_trans S1.out.2 S2.out.2) S3.out.2) S4.out.2) S5.out.2) S6.out.2))).mono ?_
       rintro e17 w17 ⟨f7, g7, rfl, kp, k⟩
       have sx : Below w16.heap.size w16 w17 := k
       have bt : Below W2.heap.size W2 w17 := below_trans S6.out.1 sx
       have S7 := Lib.hid (And.intro bt sx)
       have K7 := Lib.hid kp; clear kp
       clear m6_2_0 m6_2_1 m6_2_2
       have zz := (bt.block _ (Array.getElem?_eq_some_iff.1 HB.out.2.1).1).trans HB.out.2.1
       obtain ⟨m7_2_0, m7_2_1, m7_2_2, _⟩ := box_cells zz; clear zz
       clear sx bt k)
    | (go_at_call 20; refine (k20 (K2.out.below (below_trans (below_trans (below_trans S3.out.2 S4.out.2) S5.out.2) (alloc_b (Below.refl _ _) _))) (lit_pm (n := 4) rfl (lit_ints (l := [3, 2, 1, 0]) (by decide) rfl))).mono ?_
       rintro e16 w16 ⟨rfl, k⟩
       have sx : Below w15.heap.size w15 w16 := below_trans (alloc_b (Below.refl _ _) _) k
       have bt : Below W2.heap.size W2 w16 := below_trans S5.out.1 sx
       have S6 := Lib.hid (And.intro bt sx)
       have zz := (bt.block _ (Array.getElem?_eq_some_iff.1 HB.out.2.1).1).trans HB.out.2.1
       obtain ⟨m6_2_0, m6_2_1, m6_2_2, _⟩ := box_cells zz; clear zz
       clear sx bt k)
    | (go_at_call 20; refine (k20 (K1.out.below (below_trans (below_trans (below_trans S2.out.2 S3.out.2) S4.out.2) (alloc_b (Below.refl _ _) _))) (lit_pm (n := 4) rfl (lit_ints (l := [0, 2, 1, 3]) (by decide) rfl))).mono ?_
       rintro e15 w15 ⟨rfl, k⟩
       have sx : Below w14.heap.size w14 w15 := below_trans (alloc_b (Below.refl _ _) _) k
       have bt : Below W2.heap.size W2 w15 := below_trans S4.out.1 sx
       have S5 := Lib.hid (And.intro bt sx)
       clear sx bt k)
    | (go_at_call 19; refine (k19 (HG.out.2.1.below (below_trans (below_trans (below_trans S1.out.2 S2.out.2) S3.out.2) (alloc_b (Below.refl _ _) _))) (lit_pm (n := 4) rfl (lit_ints (l := [1, 0, 2, 3]) (by decide) rfl))).mono ?_
       rintro e14 w14 ⟨rfl, k⟩
       have sx : Below w13.heap.size w13 w14 := below_trans (alloc_b (Below.refl _ _) _) k
       have bt : Below W2.heap.size W2 w14 := below_trans S3.out.1 sx
       have S4 := Lib.hid (And.intro bt sx)
       clear m3_2_0 m3_2_1 m3_2_2
       clear sx bt k)
    | (go_at_call 18; refine (k18c (HG.out.2.1.below (below_trans S1.out.2 S2.out.2))).mono ?_
       rintro e13 w13 ⟨f3, g3, rfl, k⟩
       have sx : Below w12.heap.size w12 w13 := k
       have bt : Below W2.heap.size W2 w13 := below_trans S2.out.1 sx
       have S3 := Lib.hid (And.intro bt sx)
       clear m2_2_0 m2_2_1 m2_2_2
       have zz := (bt.block _ (Array.getElem?_eq_some_iff.1 HB.out.2.1).1).trans HB.out.2.1
       obtain ⟨m3_2_0, m3_2_1, m3_2_2, _⟩ := box_cells zz; clear zz
       clear sx bt k)
    | (go_at_call 18; refine (k18b (HG.out.2.1.below S1.out.2)).mono ?_
       rintro e12 w12 ⟨f2, g2, rfl, kp, k⟩
       have sx : Below w11.heap.size w11 w12 := k
       have bt : Below W2.heap.size W2 w12 := below_trans S1.out.1 sx
       have S2 := Lib.hid (And.intro bt sx)
       have K2 := Lib.hid kp; clear kp
       clear m1_2_0 m1_2_1 m1_2_2
       have zz := (bt.block _ (Array.getElem?_eq_some_iff.1 HB.out.2.1).1).trans HB.out.2.1
       obtain ⟨m2_2_0, m2_2_1, m2_2_2, _⟩ := box_cells zz; clear zz
       clear sx bt k)
    | (go_at_call 18; refine (k18a (HG.out.1.below (Below.refl _ _))).mono ?_
       rintro e11 w11 ⟨f1, g1, rfl, kp, k⟩
       have sx : Below W2.heap.size W2 w11 := k
       have bt : Below W2.heap.size W2 w11 := sx
       have S1 := Lib.hid (And.intro bt sx)
       have K1 := Lib.hid kp; clear kp
       clear m0_1_0 m0_1_1 m0_1_2
       have zz := (bt.block _ (Array.getElem?_eq_some_iff.1 HB.out.2.1).1).trans HB.out.2.1
       obtain ⟨m1_2_0, m1_2_1, m1_2_2, _⟩ := box_cells zz; clear zz
       clear sx bt k)
    | (go_at_call 17; refine groups52.mono ?_; rintro e1 w1 ⟨v1, v2, v3, rfl, k1, k2, k3, k4⟩; obtain ⟨a1, c1, b1, d1, rfl⟩ := k1.form; obtain ⟨a2, c2, b2, d2, rfl⟩ := k2.form; obtain ⟨a3, c3, b3, d3, rfl⟩ := k3.form; have H1 := Lib.hid (And.intro k1 (And.intro k2 (And.intro k3 k4))); clear k1 k2 k3 k4
       obtain ⟨W2, hW2⟩ : ∃ W2, (((w1.alloc (.cells #[.int .i64 4, .slice a1 4 c1, .slice b1 4 d1] 25)).alloc (.cells #[.int .i64 4, .slice a2 4 c2, .slice b2 4 d2] 25)).alloc (.cells #[.int .i64 4, .slice a3 4 c3, .slice b3 4 d3] 25)) = W2 := ⟨_, rfl⟩
       have hb2 : Below w1.heap.size w1 W2 := hW2 ▸ alloc_b (alloc_b (alloc_b (Below.refl _ _) _) _) _
       have y0 : W2.heap[w1.heap.size]? = some (.cells #[.int .i64 4, .slice a1 4 c1, .slice b1 4 d1] 25) := hW2 ▸ ((Below.heap_alloc _ _ _ (by simp; omega)).trans ((Below.heap_alloc _ _ _ (by simp)).trans (box_alloc rfl _ _ _)))
       have y1 : W2.heap[w1.heap.size + 1]? = some (.cells #[.int .i64 4, .slice a2 4 c2, .slice b2 4 d2] 25) := hW2 ▸ ((Below.heap_alloc _ _ _ (by simp)).trans (box_alloc (by simp) _ _ _))
       have y2 : W2.heap[w1.heap.size + 1 + 1]? = some (.cells #[.int .i64 4, .slice a3 4 c3, .slice b3 4 d3] 25) := hW2 ▸ (box_alloc (by simp) _ _ _)
       obtain ⟨m0_1_0, m0_1_1, m0_1_2, _⟩ := box_cells y0
       have HB := Lib.hid (And.intro y0 (And.intro y1 y2))
       have HG := Lib.hid (show GS W2 (.agg #[.int .i64 4, .slice a1 4 c1, .slice b1 4 d1]) ∧ GV W2 (.agg #[.int .i64 4, .slice a2 4 c2, .slice b2 4 d2]) ∧ GZ W2 (.agg #[.int .i64 4, .slice a3 4 c3, .slice b3 4 d3]) ∧ Below w.heap.size w W2 from And.intro (H1.out.1.below hb2) (And.intro (H1.out.2.1.below hb2) (And.intro (H1.out.2.2.1.below hb2) (below_trans H1.out.2.2.2 hb2))))
       clear hb2 y0 y1 y2))
  go_ret
  exact ⟨rfl, below_trans HG.out.2.2.2 S18.out.1⟩
end Go.Proofs.YtbejhkojdiadaaaGreatDoor
