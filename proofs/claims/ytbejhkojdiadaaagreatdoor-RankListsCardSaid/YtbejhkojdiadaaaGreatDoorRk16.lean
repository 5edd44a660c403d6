/- The kit's Elements: all elements of a group, in order. · elements: an iterator that calls itself. -/
import Derived.Test.YtbejhkojdiadaaaGreatDoorRk01
import Derived.Test.YtbejhkojdiadaaaGreatDoorRk02
import Derived.Test.YtbejhkojdiadaaaGreatDoorRk03
import Derived.Test.YtbejhkojdiadaaaGreatDoorRk04
import Derived.Test.YtbejhkojdiadaaaGreatDoorRk05
import Derived.Test.YtbejhkojdiadaaaGreatDoorRk06
import Derived.Test.YtbejhkojdiadaaaGreatDoorRk07
import Derived.Test.YtbejhkojdiadaaaGreatDoorRk08
import Derived.Test.YtbejhkojdiadaaaGreatDoorRk09
import Derived.Test.YtbejhkojdiadaaaGreatDoorRk10
import Derived.Test.YtbejhkojdiadaaaGreatDoorRk11
import Derived.Test.YtbejhkojdiadaaaGreatDoorRk12
import Derived.Test.YtbejhkojdiadaaaGreatDoorRk13
import Derived.Test.YtbejhkojdiadaaaGreatDoorRk14
import Derived.Test.YtbejhkojdiadaaaGreatDoorRk15
import Derived.Test.YtbejhkojdiadaaaGreatDoorProg
import Derived.WalkKit
import Derived.WalkSpells
import Derived.BigQuiet
import Derived.Deep.QuietTactic
import Derived.Deep.LoopGhost
import Derived.Lib.Hide
import Derived.Maps.AppendAt
import Derived.Deep.AppendLies
import Derived.StillTailTactics
import Derived.Laws.CopyOwn
import Derived.Deep.OwnRows
import Derived.Deep.DeepCutAuto
import Derived.Laws.Cover3
import Derived.Deep.RegionHeld3
import Derived.RangeFuncRecord
import Derived.Lib.SlicesSearch
import Derived.RangeFuncBox
import Derived.RangeFuncLeaves
import Derived.RangeFuncWrites
import Derived.RangeFuncFrom
import Derived.Shelf.Abstract
import Derived.OwnWalkIn
import Derived.TacticsInMore
import Derived.LoopNIn
import Derived.LoopIn
import Derived.Shelf.GgSortFunc.Insertion
import Derived.Shelf.SlIter.Collect
import Derived.Shelf.Sort.Plain
import Derived.Deep.RegionLaw
import Derived.ControlIn
import Derived.Deep.AppendSrc
set_option linter.unusedSimpArgs false
set_option linter.unusedVariables false
namespace Go.Proofs.YtbejhkojdiadaaaGreatDoor
open Go.RowKit PlainPm
theorem step_copy1 {w : World} {ops : Array Oper} {o : Oper} {a : Act} {K : Act → World → Prop} {Q : Exit → Act → World → Prop} {E : Prop} (hgd : o.guard = none) (d s : Operand) (T e : TypeId)
    (ho : o.op = .call { callee := .builtin .copy, args := #[d, s], argTypes := #[T, T] }) (hu : Tryz.prog.underlying T = some (.slice e)) (i : TypeInfo) (hi : Tryz.prog.info? e = some i) (hsz : i.size = 1)
    (B g n cap : Nat) (xs : List Value) (hown : Own w B (.slice (some ⟨g, 0, none⟩) n cap) e xs)
    (dp sp : Option Addr) (dLen dCap sLen sCap : Nat) (hd : a.eval d = .slice dp dLen dCap) (hs : a.eval s = .slice sp sLen sCap)
    (off : Nat) (cs : List Value) (hn : cs.length = Nat.min sLen dLen)
    (hpos : 0 < cs.length → dp = some ⟨g, off, none⟩ ∧ ∃ ad, sp = some ad ∧ ∀ j v, cs[j]? = some v → w.cell? (ad.add j) = some v)
    (hfit : off + cs.length ≤ xs.length) (h1 : ∀ v ∈ cs, v.oneCell' = true)
    (hK : ∀ w', Own w' B (.slice (some ⟨g, 0, none⟩) n cap) e (xs.take off ++ (cs ++ xs.drop (off + cs.length))) → w.grownBy w' (some g) → K (a.put o.dst (goInt cs.length)) w') :
    if Region.wanted o (yielded ops a.tmps) = true then Oper.wp Tryz.prog o a w K Q else E := by
  have hw : Region.wanted o (yielded ops a.tmps) = true := by simp [Region.wanted, hgd]
  rw [if_pos hw]
  obtain rfl := hown.lit
  have hsz' : (Tryz.prog.info? e).map (·.size) = some 1 := by rw [hi]; simp [hsz]
  rcases hown.2 with ⟨h2, _⟩ | ⟨g', cap', cur, h2, hB, hh, hnc, hcm, hcs, htk⟩
  · cases h2
  cases h2
  simp only [Nat.mul_one] at hcs htk
  have hl0 : xs.length ≤ cur.toList.length := by rw [← htk]; simp; omega
  by_cases h0 : cs.length = 0
  · obtain rfl : cs = [] := List.eq_nil_of_length_eq_zero h0
    have hrun := run_copy_none (P := Tryz.prog) w T T o.type e dp sp dLen dCap sLen sCap hu hsz' (by simpa using hn.symm)
    unfold Oper.wp
    simp [execOp, ho, resolve, invoke, builtin, hd, hs, hrun, Result.andThen]
    exact hK w (by simpa using hown) (World.grownBy.refl w _)
  · obtain ⟨rfl, ad, rfl, hsrc⟩ := hpos (by omega)
    have hrun := run_copy_row (P := Tryz.prog) w T T o.type e g off dLen dCap ad sLen sCap cur e cs hu hsz' hh hn hsrc (by rw [hcs]; omega) h1
    unfold Oper.wp
    simp [execOp, ho, resolve, invoke, builtin, hd, hs, hrun, Result.andThen]
    refine hK _ ?_ ⟨rfl, rfl, rfl, by simp [World.setRow], fun k hk hne => setRow_other w g k _ (by rintro rfl; exact hne rfl)⟩
    have hlen : (xs.take off ++ (cs ++ xs.drop (off + cs.length))).length = xs.length := by simp; omega
    refine ⟨by omega, .inr ⟨g, cap, _, by rw [hlen], hB, setRow_heap w g _ _ e _ hh, by omega, hcm, ?_, ?_⟩⟩
    · have : cur.toList.length = cur.size := by simp
      simp; omega
    · rw [hlen, Nat.mul_one]
      have := splice_take cur.toList cs xs.length off (by omega) hl0
      rw [htk] at this
      simpa using this
theorem Own.pop {w : World} {B g n cap : Nat} {e : TypeId} {xs : List Value} {u : Value} (h : Own w B (.slice (some ⟨g, 0, none⟩) n cap) e (xs ++ [u])) : Own w B (.slice (some ⟨g, 0, none⟩) xs.length cap) e xs := by
  obtain rfl := h.lit
  rcases h.2 with ⟨h2, _⟩ | ⟨g', cap', cur, h2, hB, hh, hnc, hcm, hcs, htk⟩
  · cases h2
  cases h2
  have h1 := h.1
  simp only [List.length_append, List.length_singleton] at *
  refine ⟨by omega, .inr ⟨g, cap, cur, rfl, hB, hh, by omega, hcm, hcs, ?_⟩⟩
  have := congrArg (List.take xs.length) htk
  simp only [Nat.mul_one, List.take_take, List.take_left'] at this ⊢
  rw [Nat.min_eq_left (by omega)] at this
  rw [this]
section
variable {n : Nat}
theorem pml_ins {w : World} {M : List Nat} {us : List Value} {L : List (Pm n)} {u : Value} {y : Pm n} {lo : Nat} (h : PmL w M us L) (hlo : lo ≤ L.length) (hu : PmV w M u y) : PmL w M (us.take lo ++ u :: us.drop lo) (insAt L lo y) := by
  have hl := h.1
  refine ⟨by unfold insAt; simp [hl], fun k s hs => ?_⟩
  unfold insAt at hs
  have t1 : (L.take lo).length = lo := by rw [List.length_take]; omega
  have t2 : (us.take lo).length = lo := by rw [List.length_take]; omega
  rcases Nat.lt_trichotomy k lo with hk | hk | hk
  · rw [List.getElem?_append_left (by omega), List.getElem?_take, if_pos hk] at hs
    obtain ⟨v, h1, h2⟩ := h.2 k s hs
    exact ⟨v, by rw [List.getElem?_append_left (by omega), List.getElem?_take, if_pos hk]; exact h1, h2⟩
  · subst hk
    rw [List.getElem?_append_right (by omega), t1, Nat.sub_self] at hs
    cases hs
    exact ⟨u, by rw [List.getElem?_append_right (by omega), t2, Nat.sub_self]; rfl, hu⟩
  · obtain ⟨j, rfl⟩ : ∃ j, k = lo + 1 + j := ⟨k - lo - 1, by omega⟩
    rw [List.getElem?_append_right (by omega), t1, show lo + 1 + j - lo = j + 1 by omega, List.getElem?_cons_succ, List.getElem?_drop] at hs
    obtain ⟨v, h1, h2⟩ := h.2 _ s hs
    exact ⟨v, by rw [List.getElem?_append_right (by omega), t2, show lo + 1 + j - lo = j + 1 by omega, List.getElem?_cons_succ, List.getElem?_drop]; exact h1, h2⟩
theorem ins_list {α : Type} (us : List α) (z y : α) {lo : Nat} (h : lo ≤ us.length) : ((us ++ [z]).take (lo + 1) ++ (us.drop lo ++ (us ++ [z]).drop (lo + 1 + (us.drop lo).length))).set lo y = us.take lo ++ y :: us.drop lo := by
  have h1 : (us ++ [z]).drop (lo + 1 + (us.drop lo).length) = [] := List.drop_eq_nil_of_le (by simp; omega)
  obtain ⟨e, he⟩ : ∃ e, (us ++ [z])[lo]? = some e := ⟨_, List.getElem?_eq_getElem (by simp; omega)⟩
  have h2 : (us ++ [z]).take (lo + 1) = us.take lo ++ [e] := by
    rw [List.take_add_one, he, List.take_append_of_le_length h]; rfl
  have h3 : (us.take lo).length = lo := by rw [List.length_take]; omega
  rw [h1, h2, List.append_nil, List.append_assoc, List.set_append_right _ _ (by omega), h3, Nat.sub_self]
  rfl
def NewB (D : Nat) (u : Value) : Prop := ∃ b o l c, u = .slice (some ⟨b, o, none⟩) l c ∧ D ≤ b
theorem NewPm.nb {w w' : World} {v : Value} {x : Pm n} {D : Nat} (h : NewPm w w' v x) (hD : D ≤ w.heap.size) : NewB D v := by
  obtain ⟨b, c, rfl, h1, _⟩ := h
  exact ⟨_, _, _, _, rfl, Nat.le_trans hD h1⟩
theorem nb_ins {D lo : Nat} {us : List Value} {u : Value} (h : ∀ v ∈ us, NewB D v) (hu : NewB D u) : ∀ v ∈ us.take lo ++ u :: us.drop lo, NewB D v := fun v hv => by
  rcases List.mem_append.1 hv with hv | hv
  · exact h v (List.mem_of_mem_take hv)
  · rcases List.mem_cons.1 hv with e | hv
    · rw [e]; exact hu
    · exact h v (List.mem_of_mem_drop hv)
structure ElS (gens : List (Pm n)) (D : Nat) (w wr : World) (va vt : Value) (us ts : List Value) (L todo : List (Pm n)) : Prop where
  oa : Own wr D va 41 us
  ot : Own wr D vt 41 ts
  ne : ∀ q, va.ownBlock = some q → vt.ownBlock ≠ some q
  pa : PmL wr (va.ownBlock.toList ++ vt.ownBlock.toList) us L
  pt : PmL wr (va.ownBlock.toList ++ vt.ownBlock.toList) ts todo
  bel : Below D w wr
  nw : ∀ u ∈ us, NewB D u
def ElsOut (w w' : World) (v : Value) (gens : List (Pm n)) : Prop := ∃ us L, Own w' w.heap.size v 41 us ∧ PmL w' v.ownBlock.toList us L ∧ L.Pairwise lexLt ∧ (∀ x, x ∈ L ↔ Grp (· ∈ gens) x) ∧ ∀ u ∈ us, NewB w.heap.size u
def lenG : Value → Nat
  | .slice (some ⟨g, _, _⟩) _ _ => g
  | _ => 0
def lenC : Value → Nat
  | .slice _ _ c => c
  | _ => 0
def lenV : Value → Nat
  | .slice _ l _ => l
  | _ => 0
theorem snoc_cases {α : Type} (l : List α) : l = [] ∨ ∃ a b, l = a ++ [b] := by
  rcases List.eq_nil_or_concat l with h | ⟨a, b, h⟩
  · exact .inl h
  · exact .inr ⟨a, b, by simpa using h⟩
theorem PmL.extM {w : World} {M M' : List Nat} {us : List Value} {l : List (Pm n)} (h : PmL w M us l) (hM : ∀ m ∈ M', m ∈ M ∨ w.heap.size ≤ m) : PmL w M' us l :=
  ⟨h.1, fun k s hs => by obtain ⟨v, h1, h2⟩ := h.2 k s hs; exact ⟨v, h1, h2.ext hM⟩⟩
set_option maxRecDepth 100000 in
set_option maxHeartbeats 8000000 in
theorem elements45 (hn : 0 < n ∧ n ≤ 64) {w : World} {a0 : Option Addr} {m0 c0 most : Nat} {gens : List (Pm n)} (hg : gens.length = m0) (hm0 : m0 ≤ 1000000) (hv : PmsV w [] (.slice a0 m0 c0) gens) (hmost : facN n ≤ most) (hm2 : most ≤ 5040) :
    Calls Tryz.prog 23 #[.int .i64 (n : Int), .slice a0 m0 c0, .int .i64 (most : Int)] w fun e w' => ∃ v, e = .returned v ∧ ElsOut w w' v gens ∧ Below w.heap.size w w' := by
  obtain ⟨i27, hi27, hz27, hs27, hb27⟩ := info_parts Tryz.info41
  have I27 := Lib.hid (And.intro hi27 (And.intro hz27 (And.intro hs27 hb27)))
  clear hi27 hz27 hs27 hb27
  obtain ⟨D, hD⟩ : ∃ D, w.heap.size = D := ⟨_, rfl⟩
  obtain ⟨_, _, evg, hg63, hatg⟩ := pms_at hv
  rw [hg] at evg hg63
  simp only [Value.slice.injEq, true_and] at evg
  obtain ⟨rfl, rfl⟩ := evg
  have H := Lib.hid (And.intro hatg (And.intro hg (And.intro hD hmost)))
  have h65 := fun (V : World) => one65 (n := n) hn.2 hn.1 (w := V)
  clear hatg hg hmost hv
  go_enter Tryz.func23, Tryz.ntmps23
  go_wp2_with (first
    | (go_at_call 26; (with_reducible refine (h65 _).mono ?_); rintro e3 w3 ⟨v3, rfl, k1, k2⟩
       obtain ⟨b3, c3, rfl, _, _, _⟩ := id k1
       have H3 := Lib.hid (And.intro H2.out.1 (And.intro H2.out.2 (And.intro k1 k2))); clear k1 k2)
    | (go_at_call 26; (with_reducible refine (h65 _).mono ?_); rintro e2 w2 ⟨v2, rfl, k1, k2⟩
       obtain ⟨b2, c2, rfl, _⟩ := id k1
       have H2 := Lib.hid (And.intro k1 k2); clear k1 k2))
  obtain ⟨W3, hW3⟩ : ∃ W3, w2.alloc (.cells #[.slice (some ⟨b2, 0, none⟩) n c2] 41) = W3 := ⟨_, rfl⟩
  obtain ⟨W4, hW4⟩ : ∃ W4, w3.alloc (.cells #[.slice (some ⟨b3, 0, none⟩) n c3] 41) = W4 := ⟨_, rfl⟩
  have hbw2 := H3.out.2.1
  have hs2 := hbw2.size
  have hb3 := H3.out.2.2.2
  have hn3 := H3.out.2.2.1
  rw [hW3] at hb3 hn3
  have hO3 : Own W3 D (.slice (some ⟨w2.heap.size, 0, none⟩) 1 1) 41 [.slice (some ⟨b2, 0, none⟩) n c2] := hW3 ▸ Own.new 41 [.slice (some ⟨b2, 0, none⟩) n c2] (by have := H.out.2.2.1; omega) (by simp; decide)
  have hb34 : Below w3.heap.size w3 W4 := hW4 ▸ alloc_b (Below.refl _ _) _
  have hb23 : Below w2.heap.size w2 W3 := hW3 ▸ alloc_b (Below.refl _ _) _
  have hs3 : W3.heap.size = w2.heap.size + 1 := by rw [← hW3]; simp
  have hs33 := hb3.size
  have hO4 : Own W4 D (.slice (some ⟨w3.heap.size, 0, none⟩) 1 1) 41 [.slice (some ⟨b3, 0, none⟩) n c3] := hW4 ▸ Own.new 41 [.slice (some ⟨b3, 0, none⟩) n c3] (by have := H.out.2.2.1; omega) (by simp; decide)
  have hp2 : PmV w2 [] (.slice (some ⟨b2, 0, none⟩) n c2) (PlainPm.one n) := H3.out.1.pm (by simp)
  have hp2' : PmV W4 [w2.heap.size, w3.heap.size] (.slice (some ⟨b2, 0, none⟩) n c2) (PlainPm.one n) := hp2.fresh (below_trans hb23 (below_trans hb3 hb34)) (fun q hq => by simp at hq; omega)
  have hp3 : PmV w3 [w2.heap.size] (.slice (some ⟨b3, 0, none⟩) n c3) (PlainPm.one n) := hn3.pm (fun q hq => by simp at hq; omega)
  have hp3' : PmV W4 [w2.heap.size, w3.heap.size] (.slice (some ⟨b3, 0, none⟩) n c3) (PlainPm.one n) := (hp3.ext (M' := [w2.heap.size, w3.heap.size]) (fun q hq => by
    simp at hq
    rcases hq with e | e
    · exact .inl (by simp [e])
    · exact .inr (by omega))).below hb34
  have hE0 : ElS gens D w W4 (.slice (some ⟨w2.heap.size, 0, none⟩) 1 1) (.slice (some ⟨w3.heap.size, 0, none⟩) 1 1) [.slice (some ⟨b2, 0, none⟩) n c2] [.slice (some ⟨b3, 0, none⟩) n c3] [PlainPm.one n] [PlainPm.one n] := by
    refine ⟨hO3.below (below_trans hb3 hb34), hO4, fun q e e' => ?_, ⟨rfl, fun k s hs => ?_⟩, ⟨rfl, fun k s hs => ?_⟩, ?_, fun u hu => by rw [List.mem_singleton.1 hu]; exact H3.out.1.nb (Nat.le_of_eq H.out.2.2.1.symm)⟩
    · have e1 : w2.heap.size = q := Option.some.inj e
      have e2 : w3.heap.size = q := Option.some.inj e'
      omega
    · match k, hs with
      | 0, hs => simp at hs; subst hs; exact ⟨_, rfl, hp2'⟩
      | k + 1, hs => simp at hs
    · match k, hs with
      | 0, hs => simp at hs; subst hs; exact ⟨_, rfl, hp3'⟩
      | k + 1, hs => simp at hs
    · rw [← H.out.2.2.1]
      exact below_trans hbw2 (below_trans hb23 (below_trans hb3 hb34))
  have HE0 := Lib.hid hE0
  rw [hW4]
  clear hE0 hp3' hp3 hp2' hp2 hO4 hO3 hs33 hs3 hb23 hb34 hn3 hb3 hs2 hbw2 hW4 hW3
  go_loopw [7, 8, 9, 10, 11, 12, 13] (fun va vt _ _ _ _ _ wr => ∃ (L : List (Pm n)) (us : List Value) (todo : List (Pm n)) (ts : List Value), ElS gens D w wr va vt us ts L todo ∧ Bfs gens L todo ∧ todo.length ≤ L.length) (fun va vt _ _ _ _ _ _ => 2 * (facN n - lenV va) + lenV vt)
  case atStart => exact ⟨_, _, _, _, HE0.out, Bfs.start gens, Nat.le_refl _⟩
  case round =>
    obtain ⟨L, us, todo, ts, hE, hB, htL⟩ := hrel
    obtain ⟨ga, ca, rfl, hga, _, hca, _⟩ := hE.oa.form (by rw [hE.pa.1]; exact List.length_pos_of_mem hB.one)
    rcases snoc_cases todo with rfl | ⟨todo', x, rfl⟩
    · obtain rfl : ts = [] := List.eq_nil_of_length_eq_zero hE.pt.1
      obtain ⟨at0, ct, rfl, _⟩ := hE.ot.row (by simp)
      have HK := Lib.hid (And.intro hE hB)
      clear hE hB
      go_wp2_with fail
      go_ret
      refine ⟨_, rfl, ⟨us, L, by rw [H.out.2.2.1]; exact HK.out.1.oa, HK.out.1.pa.extM (fun q hq => .inl (List.mem_append_left _ hq)), HK.out.2.srt, HK.out.2.fin, by rw [H.out.2.2.1]; exact HK.out.1.nw⟩, by rw [H.out.2.2.1]; exact HK.out.1.bel⟩
    · obtain ⟨ts', u, rfl⟩ : ∃ ts' u, ts = ts' ++ [u] := by
        rcases snoc_cases ts with e | ⟨a, b, e⟩
        · have := hE.pt.1; rw [e] at this; simp at this
        · exact ⟨a, b, e⟩
      obtain ⟨gt, ct, rfl, hgt, _, hct, _⟩ := hE.ot.form (by simp)
      obtain ⟨T, hT⟩ : ∃ T, ts'.length = T := ⟨_, rfl⟩
      obtain ⟨N, hN⟩ : ∃ N, us.length = N := ⟨_, rfl⟩
      have hcl := hE.ot.cell T (by simp [hT])
      rw [show (ts' ++ [u])[T]? = some u by rw [← hT]; simp] at hcl
      have htl : ts'.length = todo'.length := by have := hE.pt.1; simpa using this
      obtain ⟨u', hu', hpu⟩ := hE.pt.2 T x (by rw [← hT, htl]; simp)
      rw [show (ts' ++ [u])[T]? = some u by rw [← hT]; simp] at hu'
      cases hu'
      obtain ⟨ub, uo, uc, rfl, _⟩ := id hpu
      have hl1 : (ts' ++ [Value.slice (some ⟨ub, uo, none⟩) n uc]).length = T + 1 := by simp [hT]
      rw [hl1] at hct
      rw [hl1, hN]
      have hLF : L.length ≤ facN n := pm_card (sorted_nodup hB.srt)
      have hNL : N = L.length := by rw [← hN]; exact hE.pa.1
      have hTL : T + 1 ≤ L.length := by rw [← hT, htl]; simpa using htL
      have hTb : T ≤ 1000000 := by have := H.out.2.2.2; omega
      have hT0 : (0 : Int) ≤ (T : Int) := by omega
      have hT1 : (T : Int) < ((T + 1 : Nat) : Int) := by omega
      have hT2 : (T : Int) ≤ (ct : Int) := by omega
      have hwT : IntKind.i64.wrap (((T + 1 : Nat) : Int) - 1) = (T : Int) := by rw [show (((T + 1 : Nat) : Int) - 1) = (T : Int) by omega]; exact IntWalk.i64_in _ (by omega)
      have HK := Lib.hid (And.intro hE (And.intro hB (And.intro hT (And.intro hN (And.intro htl (And.intro hpu (And.intro hLF (And.intro hNL hTL))))))))
      clear htL hTL hE hB hT hN htl hpu hLF hNL hl1
      go_wp2_with fail
      have hE1 : ElS gens D w wr (.slice (some ⟨ga, 0, none⟩) N ca) (.slice (some ⟨gt, 0, none⟩) T ct) us ts' L todo' := by
        have hE := HK.out.1
        have h1 := hE.ot.pop
        rw [HK.out.2.2.1] at h1
        have h2 := hE.oa
        rw [HK.out.2.2.2.1] at h2
        exact ⟨h2, h1, hE.ne, hE.pa, ⟨by rw [HK.out.2.2.2.2.1], fun k s hs => by
          have hk := (List.getElem?_eq_some_iff.1 hs).1
          obtain ⟨v, q1, q2⟩ := hE.pt.2 k s (by rw [List.getElem?_append_left hk]; exact hs)
          rw [List.getElem?_append_left (by rw [HK.out.2.2.2.2.1]; exact hk)] at q1
          exact ⟨v, q1, q2⟩⟩, hE.bel, hE.nw⟩
      have HE1 := Lib.hid hE1
      clear hE1
      obtain ⟨wo, rfl⟩ : ∃ wo, wo = wr := ⟨_, rfl⟩
      go_loopw [7, 8, 10, 11, 12, 13] (fun va vt i _ _ _ wr => ∃ (k : Nat) (L1 : List (Pm n)) (us : List Value) (todo : List (Pm n)) (ts : List Value), k ≤ m0 ∧ i = .int .i64 (k : Int) ∧ ElS gens D w wr va vt us ts L1 todo ∧ BfsI gens L1 todo x k ∧ PmV wr (va.ownBlock.toList ++ vt.ownBlock.toList) (.slice (some ⟨ub, uo, none⟩) n uc) x ∧ todo.length + 1 ≤ L1.length ∧ 2 * L.length + todo.length ≤ 2 * L1.length + T ∧ va = .slice (some ⟨lenG va, 0, none⟩) us.length (lenC va) ∧ vt = .slice (some ⟨lenG vt, 0, none⟩) ts.length (lenC vt)) (fun _ _ i _ _ _ _ => m0 - (intOf i).toNat)
      case atStart => exact ⟨0, L, us, todo', ts', by omega, rfl, HE1.out, HK.out.2.1.pop, HK.out.2.2.2.2.2.1, by have := HK.out.2.2.2.2.2.2.2.2; have := HK.out.2.2.1; have := HK.out.2.2.2.2.1; omega, by have := HK.out.2.2.1; have := HK.out.2.2.2.2.1; omega, by rw [HK.out.2.2.2.1]; rfl, by rw [HK.out.2.2.1]; rfl⟩
      case round =>
        obtain ⟨k, L1, us1, todo1, ts1, hk, rfl, hE, hB, hpu, hT1', hms, hva, hvt⟩ := hrel
        obtain ⟨g1, hg1⟩ : ∃ q, lenG u7 = q := ⟨_, rfl⟩
        obtain ⟨c1, hc1⟩ : ∃ q, lenC u7 = q := ⟨_, rfl⟩
        obtain ⟨t1, ht1⟩ : ∃ q, lenG u8 = q := ⟨_, rfl⟩
        obtain ⟨d1, hd1⟩ : ∃ q, lenC u8 = q := ⟨_, rfl⟩
        obtain ⟨N1, hN1⟩ : ∃ q, us1.length = q := ⟨_, rfl⟩
        obtain ⟨T1, hT1⟩ : ∃ q, ts1.length = q := ⟨_, rfl⟩
        rw [hg1, hc1, hN1] at hva
        rw [ht1, hd1, hT1] at hvt
        clear hg1 hc1 ht1 hd1
        subst hva
        subst hvt
        have hNL1 : N1 = L1.length := by rw [← hN1]; exact hE.pa.1
        have hTL1 : T1 = todo1.length := by rw [← hT1]; exact hE.pt.1
        have hLF1 : L1.length ≤ facN n := pm_card (sorted_nodup hB.srt)
        have hN5 : N1 ≤ 5040 := by have := H.out.2.2.2; omega
        have hT5 : T1 ≤ 5040 := by omega
        have hbw : Below w.heap.size w wr := by rw [H.out.2.2.1]; exact hE.bel
        by_cases hkm : k < m0
        · have hk1 : (k : Int) < m0 := by omega
          obtain ⟨g, hgk⟩ : ∃ g, gens[k]? = some g := ⟨_, List.getElem?_eq_getElem (by rw [H.out.2.1]; exact hkm)⟩
          obtain ⟨gg, og, ug, rfl, hcg, hpg⟩ := H.out.1 k g hgk
          have hcgr := (hbw.cell (block_lt_of_cell hcg)).trans hcg
          have h49 := mul49 hn.2 hn.1 hpu.weak (hpg.below hbw)
          obtain ⟨ugb, ugo, ugc, rfl, _⟩ := id hpg
          have HI := Lib.hid (And.intro hE (And.intro hB (And.intro hpu (And.intro hT1' (And.intro hms (And.intro hN1 (And.intro hT1 (And.intro hNL1 (And.intro hTL1 (And.intro hLF1 (And.intro hbw (And.intro hgk h49))))))))))))
          clear hE hB hpu hT1' hms hN1 hT1 hNL1 hTL1 hLF1 hbw hgk h49 hpg
          by_cases hm : x.mul g ∈ L1
          · have Hm := Lib.hid hm
            clear hm
            go_wp2_with (first
              | (go_at_call 65; (with_reducible refine H5.out.2.2.mono ?_); rintro e6 w6 ⟨lo, t, rfl, q1, q2, q3, q4, q5, q6⟩
                 have ht : t = true := q2.2 Hm.out
                 subst ht
                 have H6 := Lib.hid q4; clear q1 q2 q3 q4 q5 q6)
              | (go_at_call 28; (with_reducible refine HI.out.2.2.2.2.2.2.2.2.2.2.2.2.mono ?_); rintro e5 w5 ⟨v5, rfl, k1, k2⟩
                 have hp5 := pms_ownB (HI.out.1.oa.below k2) ((HI.out.1.pa.extM (M' := []) (by simp)).below k2) (by have h9 := HI.out.2.2.2.2.2.2.2.1; omega)
                 have h100 := place100c hn.2 (by have h9 := HI.out.2.2.2.2.2.2.2.1; omega) HI.out.2.1.srt hp5 (show PmV w5 [] v5 (x.mul g) from k1.pm (by simp))
                 have H5 := Lib.hid (And.intro k1 (And.intro k2 h100)); clear k1 k2 h100 hp5))
            have hb6 := below_trans H5.out.2.1 H6.out
            have hE := HI.out.1
            refine ⟨⟨k + 1, L1, us1, todo1, ts1, by omega, by go_num, ⟨hE.oa.below hb6, hE.ot.below hb6, hE.ne, hE.pa.stp (Stp.below hb6), hE.pt.stp (Stp.below hb6), hE.bel.trans (hb6.mono (by have h8 := hE.bel.size; have h9 := H.out.2.2.1; omega)), hE.nw⟩, HI.out.2.1.old HI.out.2.2.2.2.2.2.2.2.2.2.2.1 Hm.out, HI.out.2.2.1.below hb6, HI.out.2.2.2.1, HI.out.2.2.2.2.1, by rw [HI.out.2.2.2.2.2.1]; rfl, by rw [HI.out.2.2.2.2.2.2.1]; rfl⟩, by simp [intOf]; omega⟩
          · have hcard : L1.length + 1 ≤ facN n := by
              have := pm_card (L := x.mul g :: L1) (List.nodup_cons.2 ⟨hm, sorted_nodup HI.out.2.1.srt⟩)
              simpa using this
            have hmo1 : decide ((most : Int) ≤ (N1 : Int)) = false := by have h8 := HI.out.2.2.2.2.2.2.2.1; have h9 := H.out.2.2.2; simp; omega
            have hmo2 : decide (most ≤ N1) = false := by have h8 := HI.out.2.2.2.2.2.2.2.1; have h9 := H.out.2.2.2; simp; omega
            have hul : us1.length < 1099511627776 := by have h8 := HI.out.2.2.2.2.2.1; omega
            have Hm := Lib.hid (And.intro hm hcard)
            clear hm hcard
            go_wp2_with (first
              | (at_builtin; refine app1 rfl (.tmp 57) (.tmp 58) 28 41 rfl i27 (.slice none 0 0) 24 Tryz.underlying28 I27.out.1 I27.out.2.1 I27.out.2.2.1 I27.out.2.2.2 rfl (by omega) D (.slice none 0 0) (.slice (some ⟨g1, 0, none⟩) N1 c1) us1 rfl H6.out.2.2.2.2 rfl rfl hul (by have h8 := HI.out.1.bel.size; have h9 := H5.out.2.1.size; have h7 := H6.out.2.1.size; omega) ?_; intro v8 w8 k1 k2 k3
                 obtain ⟨g8, c8, rfl, hg8, _, hc8, _⟩ := k1.form (by simp)
                 have hlen8 : (us1 ++ [Value.slice none 0 0]).length = N1 + 1 := by have h8 := HI.out.2.2.2.2.2.1; simp [h8]
                 rw [hlen8] at k1 hc8
                 rw [hlen8]
                 have H8 := Lib.hid (And.intro k1 (And.intro k2 k3)); clear k1 k2 k3 hlen8)
              | (go_at_call 65; (with_reducible refine H5.out.2.2.mono ?_); rintro e6 w6 ⟨lo, t, rfl, q1, q2, q3, q4, q5, q6⟩
                 have ht : t = false := by cases t with | false => rfl | true => exact absurd (q2.1 rfl) Hm.out.1
                 subst ht
                 have H6 := Lib.hid (And.intro q1 (And.intro q4 (And.intro q5 (And.intro q6 ((HI.out.1.oa.below H5.out.2.1).below q4))))); clear q1 q2 q3 q4 q5 q6)
              | (go_at_call 28; (with_reducible refine HI.out.2.2.2.2.2.2.2.2.2.2.2.2.mono ?_); rintro e5 w5 ⟨v5, rfl, k1, k2⟩
                 obtain ⟨yb, yc, rfl, _⟩ := id k1
                 have hp5 := pms_ownB (HI.out.1.oa.below k2) ((HI.out.1.pa.extM (M' := []) (by simp)).below k2) (by have h9 := HI.out.2.2.2.2.2.2.2.1; omega)
                 have h100 := place100c hn.2 (by have h9 := HI.out.2.2.2.2.2.2.2.1; omega) HI.out.2.1.srt hp5 (show PmV w5 [] (.slice (some ⟨yb, 0, none⟩) n yc) (x.mul g) from k1.pm (by simp))
                 have H5 := Lib.hid (And.intro k1 (And.intro k2 h100)); clear k1 k2 h100 hp5))
            have hloN : lo ≤ N1 := by have h7 := H6.out.1; have h8 := HI.out.2.2.2.2.2.2.2.1; omega
            have hl0 : (0 : Int) ≤ (lo : Int) + 1 := by omega
            have hl1 : (lo : Int) + 1 ≤ ((N1 + 1 : Nat) : Int) := by omega
            have hl2 : (lo : Int) ≤ ((N1 + 1 : Nat) : Int) := by omega
            have hl3 : N1 + 1 ≤ c8 := hc8
            have hl4 : (lo : Int) ≤ (N1 : Int) + 1 := by omega
            have hl5 : (lo : Int) + 1 ≤ (N1 : Int) + 1 := by omega
            have hne1 : ¬ c8 = lo := by omega
            have hwl : IntKind.i64.wrap ((lo : Int) + 1) = ((lo + 1 : Nat) : Int) := by rw [show ((lo : Int) + 1) = ((lo + 1 : Nat) : Int) by simp]; exact IntWalk.i64_in _ (by omega)
            have hul1 : us1.length = N1 := HI.out.2.2.2.2.2.1
            have hcp : ∀ j v, (us1.drop lo)[j]? = some v → w8.cell? ((⟨g8, lo, none⟩ : Addr).add j) = some v := fun j v hj => by
              have hjl := (List.getElem?_eq_some_iff.1 hj).1
              rw [List.length_drop] at hjl
              have h1 := H8.out.1.cell (lo + j) (by simp [hul1]; omega)
              rw [List.getElem?_append_left (by omega)] at h1
              rw [List.getElem?_drop] at hj
              rw [show ((⟨g8, lo, none⟩ : Addr).add j) = ⟨g8, lo + j, none⟩ by simp [Addr.add]]
              exact h1.trans hj
            have Hc := Lib.hid (And.intro hcp hul1)
            clear hcp hul1
            go_region_law
              (first
                | (refine step_copy1 ?_ (.tmp 63) (.tmp 66) 28 41 ?_ Tryz.underlying28 i27 I27.out.1 I27.out.2.2.1 D g8 (N1 + 1) c8 (us1 ++ [.slice none 0 0]) ?_ (if c8 = lo + 1 then some ⟨g8, 0, none⟩ else some ⟨g8, lo + 1, none⟩) (some ⟨g8, lo, none⟩) (N1 - lo) (c8 - (lo + 1)) (N1 + 1 - lo) (c8 - lo) ?_ ?_ (lo + 1) (us1.drop lo) ?_ ?_ ?_ ?_ ?_
                   rfl
                   rfl
                   first | exact H8.out.1 | exact H8.out.1.drew | exact H8.out.1.drewN _
                   rfl
                   rfl
                   rw [List.length_drop, Hc.out.2]; exact (Nat.min_eq_right (by omega)).symm
                   intro hpos
                   rw [List.length_drop, Hc.out.2] at hpos
                   refine ⟨if_neg (by omega), _, rfl, ?_⟩
                   first | exact Hc.out.1 | exact fun j v hj => Hc.out.1 j v hj
                   rw [List.length_drop, Hc.out.2]; simp [Hc.out.2]; omega
                   exact fun v hv => HI.out.1.pa.weakM.one_ v (List.mem_of_mem_drop hv)
                   intro w9 k1 k2
                   have H9 := Lib.hid (And.intro k1 k2)
                   clear k1 k2))
            have hul1 : us1.length = N1 := HI.out.2.2.2.2.2.1
            have hO9 := H9.out.1
            have hins := ins_list us1 (Value.slice none 0 0) (Value.slice (some ⟨yb, 0, none⟩) n yc) (lo := lo) (by omega)
            have hO10 := hO9.put lo (.slice (some ⟨yb, 0, none⟩) n yc)
            rw [hins] at hO10
            obtain ⟨e9, he9⟩ : ∃ e, (((us1 ++ [Value.slice none 0 0]).take (lo + 1) ++ (us1.drop lo ++ (us1 ++ [Value.slice none 0 0]).drop (lo + 1 + (us1.drop lo).length))))[lo]? = some e := ⟨_, List.getElem?_eq_getElem (by simp [hul1]; omega)⟩
            have hcell9 : w9.cell? ⟨g8, lo, none⟩ = some e9 := (hO9.cell lo (by simp [hul1]; omega)).trans he9
            have hfz9 := hO9.frozen lo
            obtain ⟨W10, hW10⟩ : ∃ W, w9.setCell ⟨g8, lo, none⟩ (.slice (some ⟨yb, 0, none⟩) n yc) = W := ⟨_, rfl⟩
            have hg10 : w9.grownBy W10 (some g8) := hW10 ▸ grown_put lo _
            rw [hW10] at hO10
            have hb56 : Below w5.heap.size w5 w6 := H6.out.2.1
            have hg1t1 : g1 ≠ t1 := fun e => HI.out.1.ne g1 rfl (by rw [e]; rfl)
            have hs6 : wr.heap.size ≤ w6.heap.size := Nat.le_trans H5.out.2.1.size hb56.size
            have ht1s : t1 < wr.heap.size := (HI.out.1.ot.block_lt rfl).1
            have hg8t1 : g8 ≠ t1 := by
              rcases H8.out.2.2 with e | ⟨q, e, hq⟩
              · have e' : some g8 = some g1 := e
                cases e'; exact hg1t1
              · have e' : some g8 = some q := e
                cases e'; omega
            have hot6 : Own w6 D (.slice (some ⟨t1, 0, none⟩) T1 d1) 41 ts1 := (HI.out.1.ot.below H5.out.2.1).below hb56
            have hot8 := hot6.kept H8.out.2.1 (.inr (fun e => by have e' : some t1 = some g1 := e; cases e'; exact hg1t1 rfl))
            have hot9 := (show Own w8.drew D _ 41 ts1 from hot8).kept H9.out.2 (.inr (fun e => by have e' : some t1 = some g8 := e; cases e'; exact hg8t1 rfl))
            have hot10 := hot9.kept hg10 (.inr (fun e => by have e' : some t1 = some g8 := e; cases e'; exact hg8t1 rfl))
            have hlo9 : (lo : Int) < (N1 : Int) + 1 := by omega
            have hlo8 : (0 : Int) ≤ (lo : Int) := by omega
            have htl1 : ts1.length < 1099511627776 := by have h8 := HI.out.2.2.2.2.2.2.1; omega
            have hD10 : D ≤ W10.heap.size := by have h1 := (hO10.block_lt rfl).2; have h2 := (hO10.block_lt rfl).1; omega
            have HX := Lib.hid (And.intro hO10 (And.intro hot10 (And.intro hg10 (And.intro hg8t1 (And.intro hb56 (And.intro ht1s hs6))))))
            clear hO9 hins hO10 hot6 hot8 hot9 hot10 hg10 he9 hg8t1 hb56 ht1s hs6 hul1
            go_wp2_with (at_builtin; refine app1 rfl (.tmp 72) (.tmp 74) 28 41 rfl i27 (.slice none 0 0) 24 Tryz.underlying28 I27.out.1 I27.out.2.1 I27.out.2.2.1 I27.out.2.2.2 rfl (by omega) D (.slice (some ⟨yb, 0, none⟩) n yc) (.slice (some ⟨t1, 0, none⟩) T1 d1) ts1 rfl HX.out.2.1 rfl rfl htl1 hD10 ?_; intro v11 w11 k1 k2 k3
                         obtain ⟨t11, d11, rfl, _, _, _, _⟩ := k1.form (by simp)
                         have H11 := Lib.hid (And.intro k1 (And.intro k2 k3)); clear k1 k2 k3)
            have hul1 : us1.length = N1 := HI.out.2.2.2.2.2.1
            have hg8 : ∀ q ∈ ([g8] ++ [t1] : List Nat), q ∈ ([g1] ++ [t1] : List Nat) ∨ w6.heap.size ≤ q := fun q hq => by
              simp at hq
              rcases hq with e | e
              · subst e
                rcases H8.out.2.2 with e | ⟨q', e, hq'⟩
                · have e' : some q = some g1 := e
                  cases e'; exact .inl (by simp)
                · have e' : some q = some q' := e
                  cases e'; exact .inr hq'
              · exact .inl (by simp [e])
            have ht11 : ∀ q ∈ ([g8] ++ [t11] : List Nat), q ∈ ([g8] ++ [t1] : List Nat) ∨ W10.heap.size ≤ q := fun q hq => by
              simp at hq
              rcases hq with e | e
              · exact .inl (by simp [e])
              · subst e
                rcases H11.out.2.2 with e | ⟨q', e, hq'⟩
                · have e' : some q = some t1 := e
                  cases e'; exact .inl (by simp)
                · have e' : some q = some q' := e
                  cases e'; exact .inr hq'
            have S68 : Stp w6 ([g1] ++ [t1]) w8 ([g8] ++ [t1]) := ⟨Kept.ofGrown H8.out.2.1 (fun q e => by have e' : some g1 = some q := e.symm ▸ rfl; cases e'; simp), hg8⟩
            have S810 : Stp w8 ([g8] ++ [t1]) W10 ([g8] ++ [t1]) := ⟨(show Kept w8 w9 _ from ((Kept.refl w8 _).drewN 1).trans (Kept.ofGrown H9.out.2 (fun q e => by cases e; simp))).trans (Kept.ofGrown HX.out.2.2.1 (fun q e => by cases e; simp)), fun q hq => .inl hq⟩
            have S1011 : Stp W10 ([g8] ++ [t1]) w11 ([g8] ++ [t11]) := ⟨Kept.ofGrown H11.out.2.1 (fun q e => by have e' : some t1 = some q := e.symm ▸ rfl; cases e'; simp), ht11⟩
            have S5 : Stp w5 ([g1] ++ [t1]) w11 ([g8] ++ [t11]) := (Stp.below HX.out.2.2.2.2.1).trans (S68.trans (S810.trans S1011))
            have S0 : Stp wr ([g1] ++ [t1]) w11 ([g8] ++ [t11]) := (Stp.below H5.out.2.1).trans S5
            have hg1s : g1 < wr.heap.size ∧ D ≤ g1 := HI.out.1.oa.block_lt rfl
            have ht1s : t1 < wr.heap.size ∧ D ≤ t1 := HI.out.1.ot.block_lt rfl
            have hy5 : PmV w5 ([g1] ++ [t1]) (.slice (some ⟨yb, 0, none⟩) n yc) (x.mul g) := H5.out.1.pm (fun q hq => by simp at hq; rcases hq with e | e <;> omega)
            have hne11 : g8 ≠ t11 := by
              rcases ht11 t11 (by simp) with h | h
              · rcases H11.out.2.2 with e | ⟨q', e, hq'⟩
                · have e' : some t11 = some t1 := e
                  cases e'; exact HX.out.2.2.2.1
                · have e' : some t11 = some q' := e
                  cases e'
                  have h1 := (HX.out.1.block_lt rfl).1
                  have h2 : g8 < W10.heap.size := h1
                  omega
              · have h2 : g8 < W10.heap.size := (HX.out.1.block_lt rfl).1
                omega
            have hu2 : (us1.take lo ++ Value.slice (some ⟨yb, 0, none⟩) n yc :: us1.drop lo).length = N1 + 1 := by simp [hul1]; omega
            have ht2 : (ts1 ++ [Value.slice (some ⟨yb, 0, none⟩) n yc]).length = T1 + 1 := by simp [HI.out.2.2.2.2.2.2.1]
            have hoa11 : Own w11 D (.slice (some ⟨g8, 0, none⟩) (N1 + 1) c8) 41 (us1.take lo ++ Value.slice (some ⟨yb, 0, none⟩) n yc :: us1.drop lo) := HX.out.1.kept H11.out.2.1 (.inr (fun e => by have e' : some g8 = some t1 := e; cases e'; exact HX.out.2.2.2.1 rfl))
            have hbl : Below D wr w11 := S0.1.below (Nat.le_trans hg1s.2 (Nat.le_of_lt hg1s.1)) (fun q hq => by simp at hq; rcases hq with e | e <;> omega)
            have h11 : Own w11 D (.slice (some ⟨t11, 0, none⟩) (ts1.length + 1) d11) 41 (ts1 ++ [.slice (some ⟨yb, 0, none⟩) n yc]) := by have h := H11.out.1; rwa [List.length_append, List.length_singleton] at h
            have hlo := H6.out.1
            have hL2 := insAt_len (y := x.mul g) hlo
            refine ⟨⟨k + 1, insAt L1 lo (x.mul g), us1.take lo ++ .slice (some ⟨yb, 0, none⟩) n yc :: us1.drop lo, todo1 ++ [x.mul g], ts1 ++ [.slice (some ⟨yb, 0, none⟩) n yc], by omega, by go_num, ⟨hoa11, h11, fun q e e' => ?_, ?_, ?_, HI.out.1.bel.trans hbl, nb_ins HI.out.1.nw (H5.out.1.nb (Nat.le_trans hg1s.2 (Nat.le_of_lt hg1s.1)))⟩, HI.out.2.1.new HI.out.2.2.2.2.2.2.2.2.2.2.2.1 Hm.out.1 H6.out.2.2.1 H6.out.2.2.2.1, ?_, ?_, ?_, ?_, ?_⟩, by simp [intOf]; omega⟩
            · have e1 : some g8 = some q := e
              have e2 : some t11 = some q := e'
              cases e1; cases e2; exact hne11 rfl
            · exact pml_ins (HI.out.1.pa.stp S0) hlo (hy5.stp S5)
            · exact (HI.out.1.pt.stp S0).snoc (hy5.stp S5)
            · exact HI.out.2.2.1.stp S0
            · have := HI.out.2.2.2.1; rw [List.length_append, hL2]; simp; omega
            · have := HI.out.2.2.2.2.1; rw [List.length_append, hL2]; simp; omega
            · show _ = Value.slice (some ⟨g8, 0, none⟩) _ c8; rw [hu2]
            · show _ = Value.slice (some ⟨t11, 0, none⟩) _ d11; rw [List.length_append]; rfl
        · have hk1 : ¬ (k : Int) < m0 := by omega
          have hkm0 : k = gens.length := by rw [H.out.2.1]; omega
          rw [hkm0] at hB
          have HI := Lib.hid (And.intro hE (And.intro hB.done (And.intro hT1' (And.intro hms (And.intro hNL1 (And.intro hTL1 hLF1))))))
          clear hE hB hpu hT1' hms hLF1 hbw hN1 hT1
          go_wp2_with fail
          refine ⟨⟨L1, us1, todo1, ts1, HI.out.1, HI.out.2.1, by have := HI.out.2.2.1; omega⟩, ?_⟩
          have h1 := HI.out.2.2.2.1
          have h2 := HI.out.2.2.2.2.1
          have h3 := HI.out.2.2.2.2.2.1
          have h4 := HI.out.2.2.2.2.2.2
          have h5 := HK.out.2.2.2.2.2.2.2.1
          have h6 := HK.out.2.2.2.2.2.2.1
          simp only [lenV]
          omega
end
end Go.Proofs.YtbejhkojdiadaaaGreatDoor
namespace Go.Proofs.YtbejhkojdiadaaaGreatDoor
open Go.RowKit PlainPm
attribute [local go_sem] Oper.semAt_some
section
variable {n : Nat}
theorem els151 {w : World} {ab ao c bb bo e : Nat} {a : Option Addr} {l cc : Nat} {i : Int} :
    Calls Tryz.prog 38 #[cv n ab ao c bb bo e, .slice a l cc, .int .i64 i] w fun r w' => ∃ I C P, r = .returned (.func (.func 77) #[] #[.pointer (some ⟨I, 0, none⟩), .pointer (some ⟨C, 0, none⟩), .pointer (some ⟨P, 0, none⟩)]) ∧
      w'.cell? ⟨I, 0, none⟩ = some (.int .i64 i) ∧ w'.heap[C]? = some (.cells #[.int .i64 (n : Int), .slice (some ⟨ab, ao, none⟩) n c, .slice (some ⟨bb, bo, none⟩) n e] 25) ∧ w'.cell? ⟨P, 0, none⟩ = some (.slice a l cc) ∧
      w.heap.size ≤ I ∧ w.heap.size ≤ C ∧ w.heap.size ≤ P ∧ Below w.heap.size w w' := by
  obtain ⟨X, hX⟩ : ∃ X, w.heap.size = X := ⟨_, rfl⟩
  go_enter Tryz.func38, Tryz.ntmps38
  try simp only [hX]
  go_wp2
  go_ret
  refine ⟨_, _, _, rfl, ?_, ?_, ?_, ?_, ?_, ?_, ?_⟩
  · rw [World.cell?_alloc_at _ _ _ _ (by simp [hX])]; rfl
  · exact ((alloc_b (alloc_b (Below.refl _ _) (.cells #[.slice a l cc] 41)) (.cells #[.int .i64 i] 3)).block X (by simp; omega)).trans (box_al25 hX _ _ _)
  · rw [World.cell?_alloc_past _ _ _ (by simp [hX]), World.cell?_alloc_at _ _ _ _ (by simp [hX])]; rfl
  · omega
  · omega
  · omega
  · rw [← hX]; exact alloc_b (alloc_b (alloc_b (Below.refl _ _) _) _) _
def elCore (s : List (Pm n)) (M : List Nat) (A : World) : Prop := True
def elGood (F s : List (Pm n)) (M : List Nat) (q : Value × Pm n) (A : World) : Prop := PmV A M q.1 q.2 ∧ s ++ [q.2] <+: F
def elNx (s : List (Pm n)) (q : Value × Pm n) (s' : List (Pm n)) : Prop := s' = s ++ [q.2]
theorem Stp.grown {W A B : World} {M0 M : List Nat} {row : Option Nat} (h : Stp W M0 A M) (g : A.grownBy B row) (hr : ∀ r, row = some r → W.heap.size ≤ r) : Stp W M0 B M :=
  ⟨⟨g.os.trans h.kept.os, g.tape.trans h.kept.tape, g.output.trans h.kept.output, Nat.le_trans h.kept.size g.size, fun k hk hn =>
    (g.block k (Nat.lt_of_lt_of_le hk h.kept.size) (fun e => by have := hr k e.symm; omega)).trans (h.kept.block k hk hn)⟩, h.new⟩
theorem Kept.grown {W A B : World} {M0 : List Nat} {row : Option Nat} (h : Kept W A M0) (g : A.grownBy B row) (hr : ∀ r, row = some r → W.heap.size ≤ r) : Kept W B M0 :=
  ⟨g.os.trans h.os, g.tape.trans h.tape, g.output.trans h.output, Nat.le_trans h.size g.size, fun k hk hn =>
    (g.block k (Nat.lt_of_lt_of_le hk h.size) (fun e => by have := hr k e.symm; omega)).trans (h.block k hk hn)⟩
theorem leaves_marks {F : Fence} {m : Nat} {P : Program} {fn : Func} {tmps : Array Value} {R : Ending → World → Prop} {u : FrameMode} (hu : u ≠ .run) :
    ∀ (Ds : List Nat) (w : World), Ds.Nodup → (∀ D ∈ Ds, w.heap[D]? = some (.deferred (some []))) → LeavesIn F m P fn tmps R [] u (Ds.foldl (fun W D => W.putObj D (.deferred none)) w) →
      LeavesInM F m P fn tmps R (Ds.map fun D => { target := .collected D, args := #[] }) u w
  | [], w, _, _, h => h
  | D :: Ds, w, hn, hD, h => by
    refine ⟨hu, .inl ⟨_, _, rfl, run_takeDeferred (hD D (List.mem_cons_self ..)), leaves_marks hu Ds _ (List.nodup_cons.1 hn).2 (fun D' h' => ?_) h⟩⟩
    rw [World.putObj_heap_other (fun e => (List.nodup_cons.1 hn).1 (by rw [← e]; exact h'))]
    exact hD D' (List.mem_cons_of_mem _ h')
theorem putAll {I : World → Prop} {B : Nat} (hI : OwnFromW B I) : ∀ (Ds : List Nat) (w : World), (∀ D ∈ Ds, B ≤ D ∧ ∃ o : Obj, w.heap[D]? = some o ∧ o.isCells = false) → I w → I (Ds.foldl (fun W D => W.putObj D (.deferred none)) w)
  | [], w, _, h => h
  | D :: Ds, w, hD, h => by
    obtain ⟨h1, o, h2, h3⟩ := hD D (List.mem_cons_self ..)
    refine putAll hI Ds _ (fun D' h' => ?_) (OwnFrom.putObj hI (s := ()) _ h h1 h2 h3)
    obtain ⟨h4, o', h5, h6⟩ := hD D' (List.mem_cons_of_mem _ h')
    refine ⟨h4, ?_⟩
    by_cases e : D' = D
    · subst e; exact ⟨_, World.putObj_heap_same (Array.getElem?_eq_some_iff.1 h2).1, rfl⟩
    · exact ⟨o', (World.putObj_heap_other e).trans h5, h6⟩
set_option maxRecDepth 100000 in
set_option maxHeartbeats 4000000 in
theorem els172a (hn : 0 < n ∧ n ≤ 64) {O : Nat → List Nat} {R : Nat → Nat → Pm n} {ab ao c bb bo e : Nat} {F : List (Pm n)} {w : World} {I C P : Nat} {vy : Value} {y : Pm n} {M0 : List Nat} {s0 : List (Pm n)}
    (hI : w.cell? ⟨I, 0, none⟩ = some (.int .i64 (n : Int))) (hC : w.heap[C]? = some (.cells #[.int .i64 (n : Int), .slice (some ⟨ab, ao, none⟩) n c, .slice (some ⟨bb, bo, none⟩) n e] 25)) (hP : w.cell? ⟨P, 0, none⟩ = some vy)
    (hy : PmV w M0 vy y) (hF : s0 ++ [y] <+: F) :
    SeqY Tryz.prog 77 #[.pointer (some ⟨I, 0, none⟩), .pointer (some ⟨C, 0, none⟩), .pointer (some ⟨P, 0, none⟩)] Prod.fst elCore (elGood F) elNx (fun s => s = s0 ++ [y]) s0 M0 w := by
  intro lp J Jx W hW _ hl2 hJ hJx hCo hY h0
  obtain ⟨yb, yo, yc, rfl, _⟩ := id hy
  obtain ⟨c0, c1, c2, _⟩ := box_cells hC
  have cI := (hW.cell (p := ⟨I, 0, none⟩) (block_lt_of_cell hI)).trans hI
  have cC := (hW.cell (p := ⟨C, 0, none⟩) (block_lt_of_cell c0)).trans c0
  have cP := (hW.cell (p := ⟨P, 0, none⟩) (block_lt_of_cell hP)).trans hP
  obtain ⟨W1, hW1⟩ : ∃ W1, W.alloc (.cells #[.func (.yield lp) #[] #[]] 101) = W1 := ⟨_, rfl⟩
  have hb1 : Below W.heap.size W W1 := hW1 ▸ alloc_b (Below.refl _ _) _
  have hyy := hY 8 s0 M0 (.slice (some ⟨yb, yo, none⟩) n yc, y) W1 (ownS_below hJ h0 hb1) ⟨(hy.below hW).below hb1, hF⟩
  obtain ⟨fn, tmps, assign, body, hyr, hR⟩ := hyy
  dsimp only at hyr
  have dI := (hb1.cell (p := ⟨I, 0, none⟩) (block_lt_of_cell cI)).trans cI
  have dC := (hb1.cell (p := ⟨C, 0, none⟩) (block_lt_of_cell cC)).trans cC
  have dP := (hb1.cell (p := ⟨P, 0, none⟩) (block_lt_of_cell cP)).trans cP
  have dY : W1.cell? ⟨W.heap.size, 0, none⟩ = some (.func (.yield lp) #[] #[]) := by rw [← hW1]; exact World.cell?_alloc_at _ _ _ _ rfl
  have H := Lib.hid (And.intro hb1 hW1)
  clear hY hW hI hC hP hy hF hb1 c0 c1 c2 h0 hCo hJ hJx cI cC cP
  refine (callsIn_wide (n := 9)).1 ?_
  have wd : Fence.wide.depth = none := rfl
  refine callsIn_of_wp Tryz.func77 rfl trivial ?_ rfl
  simp only [Tryz.ntmps77, List.size_toArray, List.length_cons, List.length_nil, Nat.reduceAdd, Nat.reduceSub, Array.replicate_succ, Array.replicate_zero, List.push_toArray, List.append_toArray, List.nil_append, List.cons_append]
  gi_wp2
  refine hR.mono ?_
  rintro e W4 (⟨rfl, s', M', hnx, hj, hst⟩ | ⟨rfl, hjx, hkx⟩)
  · have H4 := Lib.hid (And.intro hnx (And.intro hj ((Stp.below H.out.1).trans hst)))
    clear hnx hj hst hR hyr
    gi_wp2
    refine bodyPost_ret (results_none rfl _ _ _) rfl ?_
    exact ⟨⟨_, rfl⟩, .inl ⟨s', M', H4.out.1, H4.out.2.1, H4.out.2.2⟩⟩
  · have H4 := Lib.hid (And.intro hjx ((Kept.ofBelow H.out.1).trans hkx))
    clear hjx hkx hR hyr
    gi_wp2
    refine bodyPost_ret (results_none rfl _ _ _) rfl ?_
    exact ⟨⟨_, rfl⟩, .inr H4.out⟩
theorem wrap_s {i : Nat} (h : i < 64) : Value.int .i64 (IntKind.i64.wrap ((i : Int) + 1)) = .int .i64 ((i + 1 : Nat) : Int) := by
  rw [IntWalk.i64_in _ (by omega)]; rfl
def ElSeq (O : Nat → List Nat) (R : Nat → Nat → Pm n) (ab ao c bb bo e : Nat) (F : List (Pm n)) (f i : Nat) : Prop :=
  ∀ {w : World} {I C P : Nat} {vy : Value} {y : Pm n} {M0 : List Nat} {s0 : List (Pm n)}, w.cell? ⟨I, 0, none⟩ = some (.int .i64 (i : Int)) →
    w.heap[C]? = some (.cells #[.int .i64 (n : Int), .slice (some ⟨ab, ao, none⟩) n c, .slice (some ⟨bb, bo, none⟩) n e] 25) → w.cell? ⟨P, 0, none⟩ = some vy → I ∉ M0 → C ∉ M0 → P ∉ M0 → PmV w M0 vy y →
    (∀ W', Kept w W' M0 → LvW n W' O R ab ao bb bo) → s0 ++ elsF O R f i y <+: F →
      SeqY Tryz.prog 77 #[.pointer (some ⟨I, 0, none⟩), .pointer (some ⟨C, 0, none⟩), .pointer (some ⟨P, 0, none⟩)] Prod.fst elCore (elGood F) elNx (fun s => s = s0 ++ elsF O R f i y) s0 M0 w
structure ElC (I C P n ab ao c bb bo e yb yo yc i : Nat) (W V : World) : Prop where
  i : V.cell? ⟨I, 0, none⟩ = some (.int .i64 (i : Int))
  c0 : V.cell? ⟨C, 0, none⟩ = some (.int .i64 (n : Int))
  c1 : V.cell? ⟨C, 1, none⟩ = some (.slice (some ⟨ab, ao, none⟩) n c)
  c2 : V.cell? ⟨C, 2, none⟩ = some (.slice (some ⟨bb, bo, none⟩) n e)
  p : V.cell? ⟨P, 0, none⟩ = some (.slice (some ⟨yb, yo, none⟩) n yc)
  b : Below W.heap.size W V
theorem ElC.below {I C P n ab ao c bb bo e yb yo yc i : Nat} {W A B : World} (h : ElC I C P n ab ao c bb bo e yb yo yc i W A) (k : Below A.heap.size A B) : ElC I C P n ab ao c bb bo e yb yo yc i W B :=
  ⟨(k.cell (block_lt_of_cell h.i)).trans h.i, (k.cell (block_lt_of_cell h.c0)).trans h.c0, (k.cell (block_lt_of_cell h.c1)).trans h.c1, (k.cell (block_lt_of_cell h.c2)).trans h.c2, (k.cell (block_lt_of_cell h.p)).trans h.p, below_trans h.b k⟩
theorem ElC.all {I C P n ab ao c bb bo e yb yo yc i : Nat} {W V : World} (h : ElC I C P n ab ao c bb bo e yb yo yc i W V) :
    V.cell? ⟨I, 0, none⟩ = some (.int .i64 (i : Int)) ∧ V.cell? ⟨C, 0, none⟩ = some (.int .i64 (n : Int)) ∧ V.cell? ⟨C, 1, none⟩ = some (.slice (some ⟨ab, ao, none⟩) n c) ∧ V.cell? ⟨C, 2, none⟩ = some (.slice (some ⟨bb, bo, none⟩) n e) ∧ V.cell? ⟨P, 0, none⟩ = some (.slice (some ⟨yb, yo, none⟩) n yc) ∧ Below W.heap.size W V :=
  ⟨h.i, h.c0, h.c1, h.c2, h.p, h.b⟩
set_option maxRecDepth 100000 in
set_option maxHeartbeats 4000000 in
theorem els172b (hn : 0 < n ∧ n ≤ 64) {G : Pm n → Prop} {O : Nat → List Nat} {R : Nat → Nat → Pm n} (hG : ChG G O R) {ab ao c bb bo e : Nat} {F : List (Pm n)} {f i : Nat} (hi : i + (f + 1) = n) (ih : ElSeq O R ab ao c bb bo e F f (i + 1)) : ElSeq O R ab ao c bb bo e F (f + 1) i := by
  intro w I C P vy y M0 s0 hI hC hP nI nC nP hy hlv hF
  intro lp J Jx W hW hl1 hl2 hJ hJx hCo hY h0
  have hin : i < n := by omega
  obtain ⟨yb, yo, yc, rfl, _⟩ := id hy
  obtain ⟨c0, c1, c2, _⟩ := box_cells hC
  have cI := (hW.cell (p := ⟨I, 0, none⟩) (block_lt_of_cell hI)).trans hI
  have cC := (hW.cell (p := ⟨C, 0, none⟩) (block_lt_of_cell c0)).trans c0
  have cC1 := (hW.cell (p := ⟨C, 1, none⟩) (block_lt_of_cell c1)).trans c1
  have cC2 := (hW.cell (p := ⟨C, 2, none⟩) (block_lt_of_cell c2)).trans c2
  have cP := (hW.cell (p := ⟨P, 0, none⟩) (block_lt_of_cell hP)).trans hP
  have hlt := hG.lt i hin
  have hnd := hG.nd i hin
  obtain ⟨W1, hW1⟩ : ∃ W1, W.alloc (.cells #[.func (.yield lp) #[] #[]] 101) = W1 := ⟨_, rfl⟩
  have hb1 : Below W.heap.size W W1 := hW1 ▸ alloc_b (Below.refl _ _) _
  have dI := (hb1.cell (p := ⟨I, 0, none⟩) (block_lt_of_cell cI)).trans cI
  have dC := (hb1.cell (p := ⟨C, 0, none⟩) (block_lt_of_cell cC)).trans cC
  have dC1 := (hb1.cell (p := ⟨C, 1, none⟩) (block_lt_of_cell cC1)).trans cC1
  have dC2 := (hb1.cell (p := ⟨C, 2, none⟩) (block_lt_of_cell cC2)).trans cC2
  have dP := (hb1.cell (p := ⟨P, 0, none⟩) (block_lt_of_cell cP)).trans cP
  have dY : W1.cell? ⟨W.heap.size, 0, none⟩ = some (.func (.yield lp) #[] #[]) := by rw [← hW1]; exact World.cell?_alloc_at _ _ _ _ rfl
  have k61 := choices61 (c := c) (e := e) hin hlt (hlv W1 ((Kept.ofBelow hW).trans (Kept.ofBelow hb1))) ((hy.below hW).below hb1).weak
  have hsl : (srtI (nts ((O i).map y.at))).length = (O i).length := by rw [srtI_len]; unfold nts; simp
  obtain ⟨L, hL⟩ : ∃ L, (O i).length = L := ⟨_, rfl⟩
  have hL64 : L ≤ 64 := by rw [← hL]; exact Nat.le_trans (hG.short hin) hn.2
  have hix : ((i : Int) == (n : Int)) = false := by simp; omega
  have HA := Lib.hid (And.intro hW (And.intro hJ (And.intro hJx (And.intro hCo (And.intro hY (And.intro h0 (And.intro hb1 hW1)))))))
  have HB := Lib.hid (And.intro hI (And.intro hC (And.intro hP (And.intro nI (And.intro nC (And.intro nP (And.intro hy (And.intro hlv hF))))))))
  have HC := Lib.hid (And.intro k61 (And.intro hlt (And.intro hnd (And.intro hsl hL))))
  clear hW hJ hJx hCo hY h0 hb1 hI hC hP nI nC nP hy hlv hF k61 hlt hnd hsl hL cI cC cC1 cC2 cP c0 c1 c2
  refine (callsIn_wide (n := 9)).1 ?_
  have w61 : Fence.wide.fn 60 := trivial
  have w62 : Fence.wide.fn 61 := trivial
  have w151 : Fence.wide.fn 38 := trivial
  have wd : Fence.wide.depth = none := rfl
  refine callsIn_of_wp_marks Tryz.func77 rfl trivial ?_ rfl
  simp only [Tryz.ntmps77, List.size_toArray, List.length_cons, List.length_nil, Nat.reduceAdd, Nat.reduceSub, Array.replicate_succ, Array.replicate_zero, List.push_toArray, List.append_toArray, List.nil_append, List.cons_append]
  gi_wp2_with (gi_at_call 60; (with_reducible refine (callsIn_wide.2 HC.out.1).mono ?_); rintro e2 w2 ⟨v2, rfl, k1, k2⟩
               have k3 : (ints (srtI (nts ((O i).map y.at)))).length = L := by rw [ints_len, HC.out.2.2.2.1, HC.out.2.2.2.2]
               obtain ⟨a2, c2, k5, k4⟩ := k1.row (by rw [k3]; unfold maxLen; omega)
               rw [k3] at k5
               subst k5
               have k6 := k1.intsB (by rw [HC.out.2.2.2.1, HC.out.2.2.2.2]; unfold maxLen; omega)
               have H2 := Lib.hid (And.intro k6 k2)
               clear k1 k2 k3 k4 k6)
  have hW2 : Below W.heap.size W w2 := below_trans HA.out.2.2.2.2.2.2.1 H2.out.2
  have hww2 : Below w.heap.size w w2 := below_trans HA.out.1 hW2
  have hM0 := (HA.out.2.2.2.1 _ _ _ HA.out.2.2.2.2.2.1).2
  have hs1 : W1.heap.size = W.heap.size + 1 := by rw [← HA.out.2.2.2.2.2.2.2]; simp
  have s12 := H2.out.2.size
  have lI := block_lt_of_cell HB.out.1
  have lC := (Array.getElem?_eq_some_iff.1 HB.out.2.1).1
  have lP := block_lt_of_cell HB.out.2.2.1
  have sw := HA.out.1.size
  have eI := (hww2.cell (p := ⟨I, 0, none⟩) lI).trans HB.out.1
  have eC := (hww2.block C lC).trans HB.out.2.1
  have eP := (hww2.cell (p := ⟨P, 0, none⟩) lP).trans HB.out.2.2.1
  have eY := (H2.out.2.cell (p := ⟨W.heap.size, 0, none⟩) (block_lt_of_cell dY)).trans dY
  have lI2 : I < w2.heap.size := Nat.lt_of_lt_of_le (show I < w.heap.size from lI) hww2.size
  have lC2 : C < w2.heap.size := Nat.lt_of_lt_of_le lC hww2.size
  have lP2 : P < w2.heap.size := Nat.lt_of_lt_of_le (show P < w.heap.size from lP) hww2.size
  have lY2 : W.heap.size < w2.heap.size := by omega
  have nY : W.heap.size ∉ M0 := fun hm => by have := hM0 _ hm; omega
  have HD := Lib.hid (And.intro hW2 (And.intro hww2 (And.intro hM0 (And.intro eI (And.intro eC (And.intro eP (And.intro eY nY)))))))
  clear hW2 hww2 hM0 eI eC eP eY nY
  refine wpIn_loop (fun a' wr => ∃ (u6 u20 u21 u22 u23 u24 u25 u26 u27 u28 u29 u30 u31 u32 u38 : Value) (ds : List Deferred),
    (∃ (k : Nat) (s : List (Pm n)) (M : List Nat) (Ds : List Nat), u20 = .int .i64 (k : Int) ∧ k ≤ L ∧ s = s0 ++ (List.range k).flatMap (fun t => elsF O R f (i + 1) ((R i (selQ y (O i) t)).mul y)) ∧ J s M wr ∧ Stp w2 M0 wr M ∧
      ds = Ds.map (fun D => { target := .collected D, args := #[] }) ∧ Ds.Nodup ∧ ∀ D ∈ Ds, w2.heap.size ≤ D ∧ D ∉ M ∧ wr.heap[D]? = some (.deferred (some []))) ∧
    a' = { tmps := #[.func (.yield lp) #[] #[], .pointer (some ⟨I, 0, none⟩), .pointer (some ⟨C, 0, none⟩), .pointer (some ⟨P, 0, none⟩), .pointer (some ⟨W.heap.size, 0, none⟩), undef, u6, undef, .int .i64 (i : Int), .pointer (some ⟨C, 0, none⟩), .int .i64 (n : Int), .bool false, undef, undef, undef,
      .agg #[.int .i64 (n : Int), .slice (some ⟨ab, ao, none⟩) n c, .slice (some ⟨bb, bo, none⟩) n e], .slice (some ⟨yb, yo, none⟩) n yc, .int .i64 (i : Int), .slice a2 L c2, .int .i64 (L : Int), u20, u21, u22, u23, u24, u25, u26, u27, u28, u29, u30, u31, u32, undef, undef, undef, undef, undef, u38], defers := ds })
    (fun a' _ => L - (intOf (a'.tmps.getD 20 undef)).toNat) ?start ?round
  case start =>
    exact ⟨_, _, _, _, _, _, _, _, _, _, _, _, _, _, _, _, ⟨0, s0, M0, [], rfl, Nat.zero_le _, by simp, ownS_below HA.out.2.1 HA.out.2.2.2.2.2.1 HD.out.1, Stp.refl _ _, rfl, List.nodup_nil, fun D h => by cases h⟩, rfl⟩
  case round =>
    rintro a' wr ⟨u6, u20, u21, u22, u23, u24, u25, u26, u27, u28, u29, u30, u31, u32, u38, ds, ⟨k, s, M, Ds, rfl, hk, hs, hj, hst, rfl, hDn, hD⟩, rfl⟩
    have hlvr := HB.out.2.2.2.2.2.2.2.1 wr ((Kept.ofBelow HD.out.2.1).trans hst.kept)
    have sr := hst.kept.size
    have sW2 := HD.out.1.size
    have fI := (hst.kept.cell (p := ⟨I, 0, none⟩) lI2 HB.out.2.2.2.1).trans HD.out.2.2.2.1
    have fC := (hst.kept.block C lC2 HB.out.2.2.2.2.1).trans HD.out.2.2.2.2.1
    have fP := (hst.kept.cell (p := ⟨P, 0, none⟩) lP2 HB.out.2.2.2.2.2.1).trans HD.out.2.2.2.2.2.1
    have fY := (hst.kept.cell (p := ⟨W.heap.size, 0, none⟩) lY2 HD.out.2.2.2.2.2.2.2).trans HD.out.2.2.2.2.2.2.1
    obtain ⟨fc0, fc1, fc2, _⟩ := box_cells fC
    have fy : PmV wr M (.slice (some ⟨yb, yo, none⟩) n yc) y := (HB.out.2.2.2.2.2.2.1.below HD.out.2.1).stp hst
    by_cases hkL : k < L
    · have hsel := sel_sorted (y := y) HC.out.2.1 HC.out.2.2.1 (m := srtI (nts ((O i).map y.at))) (by
          refine (srtI_perm _).trans ?_
          unfold nts; rw [List.map_map]; exact List.Perm.refl _) (srtI_sorted _) (s := k) (by rw [HC.out.2.2.2.2]; exact hkL)
      obtain ⟨q, hq⟩ : ∃ q, selQ y (O i) k = q := ⟨_, rfl⟩
      rw [hq] at hsel
      obtain ⟨g2, o2, rfl, hg2, hc2⟩ := H2.out.1.1.2 k (.int .i64 (y.at q : Int)) (by rw [List.getElem?_map, hsel.2.2]; rfl)
      have hg2M : g2 ∉ M := fun hm => by
        have h1 := H2.out.1.2 _ rfl (by rw [HC.out.2.2.2.1, HC.out.2.2.2.2]; omega)
        rcases hst.new _ hm with h | h
        · have h2 := HD.out.2.2.1 _ h
          have h3 : W1.heap.size ≤ g2 := h1
          omega
        · omega
      have hg2M0 : g2 ∉ M0 := fun hm => by
        have h2 := HD.out.2.2.1 _ hm
        have h3 : W1.heap.size ≤ g2 := H2.out.1.2 _ rfl (by rw [HC.out.2.2.2.1, HC.out.2.2.2.2]; omega)
        omega
      have fq := (hst.kept.cell (p := ⟨g2, o2 + k, none⟩) hg2 hg2M0).trans hc2
      obtain ⟨aq, haq⟩ : ∃ aq, y.at q = aq := ⟨_, rfl⟩
      have k62 := fun (V : World) (hV : Below wr.heap.size wr V) => step62 (c := c) (e := e) hn.2 hin HC.out.2.1 hsel.1 (hlvr.below hV) (fy.below hV).weak
      rw [haq] at fq
      simp only [haq] at k62
      have hk1 : (k : Int) < L := by omega
      have HR := Lib.hid (And.intro hs (And.intro hj (And.intro hst (And.intro hDn (And.intro hD (And.intro k62 (And.intro hq (And.intro hlvr fy))))))))
      clear hs hj hst hDn hD k62 hq hlvr fy hsel hc2 hg2 hg2M hg2M0 haq fC
      gi_wp2_with fail
      have hz0 := ElC.mk fI fc0 fc1 fc2 fP (Below.refl wr.heap.size wr)
      refine wpIn_wide.2 ?_
      go_region_held3 (fun V => V.cell? ⟨I, 0, none⟩ = some (.int .i64 (i : Int)) ∧ V.cell? ⟨C, 0, none⟩ = some (.int .i64 (n : Int)) ∧ V.cell? ⟨C, 1, none⟩ = some (.slice (some ⟨ab, ao, none⟩) n c) ∧ V.cell? ⟨C, 2, none⟩ = some (.slice (some ⟨bb, bo, none⟩) n e) ∧ V.cell? ⟨P, 0, none⟩ = some (.slice (some ⟨yb, yo, none⟩) n yc) ∧ Below wr.heap.size wr V)
        (first
          | with_reducible assumption
          | with_reducible exact hz0.all
          | (refine (hz0.below ?_).all; (repeat' (first | exact Below.refl _ _ | exact b8 | exact b7 | apply below_drw)); done)
          | fail)
        (first
        | (go_at_call 38; (with_reducible refine els151.mono ?_); rintro e8 w8 ⟨I2, C2, P2, rfl, k1, k2, k3, k4, k5, k6, k7⟩
           have b8 : Below wr.heap.size wr w8 := below_trans (by (repeat' (first | exact b7 | apply below_drw))) k7
           obtain ⟨iI, ic0, ic1, ic2, iP, _⟩ := hz0.below b8
           have H8 := Lib.hid (And.intro k1 (And.intro k2 (And.intro k3 (And.intro k4 (And.intro k5 (And.intro k6 k7)))))); clear k1 k2 k3 k4 k5 k6 k7)
        | (go_at_call 61; (with_reducible refine (HR.out.2.2.2.2.2.1 _ ?_).mono ?_); (repeat' (first | exact Below.refl _ _ | apply below_drw)); rintro e7 w7 ⟨v7, rfl, k1, k2⟩; obtain ⟨xb, xc, rfl, k3⟩ := id k1
           have b7 : Below wr.heap.size wr w7 := below_trans (by (repeat' (first | exact Below.refl _ _ | apply below_drw))) k2
           obtain ⟨gI, gc0, gc1, gc2, gP, _⟩ := hz0.below b7
           have H7 := Lib.hid (And.intro k1 k2); clear k1 k2 k3))
      gi_wp2
      obtain ⟨hs, hj, hst, hDn, hD, -, hq, hlvr, fy⟩ := HR.out
      have hMr := (HA.out.2.2.2.1 _ _ _ hj).2
      have s8 := b8.size
      have s7 := b7.size
      have hst8 : Stp W1 M0 w8 M := ((Stp.below H2.out.2).trans hst).trans (Stp.below b8)
      have hMM : ∀ m ∈ lp :: M, m < wr.heap.size := fun m hm => by
        rcases List.mem_cons.1 hm with h | h
        · omega
        · exact hMr m h
      have hi64 : (i : Int) < 64 := by omega
      have hw1 : Value.int .i64 (IntKind.i64.wrap ((i : Int) + 1)) = .int .i64 ((i + 1 : Nat) : Int) := wrap_s (by omega)
      obtain ⟨z31, hz31⟩ : ∃ z, Value.int .i64 (IntKind.i64.wrap ((i : Int) + 1)) = z := ⟨_, rfl⟩
      rw [hz31] at hw1 H8 ⊢
      clear hz31
      have hsnx : s ++ elsF O R f (i + 1) ((R i q).mul y) = s0 ++ (List.range (k + 1)).flatMap (fun t => elsF O R f (i + 1) ((R i (selQ y (O i) t)).mul y)) := by
        rw [hs, List.range_succ, List.flatMap_append, List.flatMap_cons, List.flatMap_nil, List.append_nil, hq, List.append_assoc]
      have hpre : s ++ elsF O R f (i + 1) ((R i q).mul y) <+: F := by
        refine List.IsPrefix.trans ?_ HB.out.2.2.2.2.2.2.2.2
        rw [hsnx]
        refine List.prefix_append_right_inj _ |>.2 ?_
        show _ <+: (List.range (O i).length).flatMap _
        rw [HC.out.2.2.2.2]
        obtain ⟨r, hr⟩ : ∃ r, L = (k + 1) + r := ⟨L - (k + 1), by omega⟩
        have e1 : List.range L = List.range (k + 1) ++ (List.range r).map (k + 1 + ·) := by rw [hr, List.range_add]
        rw [e1, List.flatMap_append]
        exact List.prefix_append _ _
      have hseq := ih (w := w8) (I := I2) (C := C2) (P := P2) (vy := .slice (some ⟨xb, 0, none⟩) n xc) (y := (R i q).mul y) (M0 := lp :: M) (s0 := s) (by rw [← hw1]; exact H8.out.1) H8.out.2.1 H8.out.2.2.1
        (fun hm => by have h1 := hMM _ hm; have h2 := H8.out.2.2.2.1; omega) (fun hm => by have h1 := hMM _ hm; have h2 := H8.out.2.2.2.2.1; omega) (fun hm => by have h1 := hMM _ hm; have h2 := H8.out.2.2.2.2.2.1; omega)
        ((H7.out.1.pm hMM).below H8.out.2.2.2.2.2.2)
        (fun W' hk => HB.out.2.2.2.2.2.2.2.1 W' ((((Kept.ofBelow HD.out.2.1).trans hst.kept).trans (Kept.ofBelow b8)).transW hk (fun m hm => by
          rcases List.mem_cons.1 hm with h | h
          · right; omega
          · rcases hst.new m h with h | h
            · exact .inl h
            · right; omega))) hpre
      have HS := Lib.hid (And.intro hj (And.intro hst (And.intro hDn (And.intro hD (And.intro hst8 (And.intro hMM hsnx))))))
      clear hj hst hDn hD hst8 hMM hsnx hpre hlvr fy hs hMr hq hw1
      refine wpIn_rangeYD (gf := 77) (lb := #[.pointer (some ⟨I2, 0, none⟩), .pointer (some ⟨C2, 0, none⟩), .pointer (some ⟨P2, 0, none⟩)]) rfl (enters_of Tryz.func77 (by kernel_rfl) rfl)
        (Prod.fst : Value × Pm n → Value) rfl (lp :: M) (fun m hm => Nat.lt_of_lt_of_le (HS.out.2.2.2.2.2.1 m hm) s8)
        (fun s' M' A => ∃ M2, M' = lp :: M2 ∧ J s' M2 A ∧ Stp W1 M0 A M2) (fun A => Jx A ∧ Kept W1 A (lp :: M0)) elCore (elGood F) elNx (fun s' => s' = s ++ elsF O R f (i + 1) ((R i q).mul y)) s hseq ?own ?ownx ?good ?core ⟨M, rfl, ownS_below HA.out.2.1 HS.out.1 b8, HS.out.2.2.2.2.1⟩
        (fun q => { tmps := #[.func (.yield lp) #[] #[], .pointer (some ⟨I, 0, none⟩), .pointer (some ⟨C, 0, none⟩), .pointer (some ⟨P, 0, none⟩), .pointer (some ⟨W.heap.size, 0, none⟩), undef, .int .i64 (aq : Int), q.1, .int .i64 (i : Int), .pointer (some ⟨C, 0, none⟩), .int .i64 (n : Int), .bool false, undef, undef, undef,
          .agg #[.int .i64 (n : Int), .slice (some ⟨ab, ao, none⟩) n c, .slice (some ⟨bb, bo, none⟩) n e], .slice (some ⟨yb, yo, none⟩) n yc, .int .i64 (i : Int), .slice (some ⟨g2, o2, none⟩) L c2, .int .i64 (L : Int), .int .i64 (k : Int), .bool true, .pointer (some ⟨g2, o2 + k, none⟩), .int .i64 (aq : Int),
          .agg #[.int .i64 (n : Int), .slice (some ⟨ab, ao, none⟩) n c, .slice (some ⟨bb, bo, none⟩) n e], .agg #[.int .i64 (n : Int), .slice (some ⟨ab, ao, none⟩) n c, .slice (some ⟨bb, bo, none⟩) n e], .slice (some ⟨yb, yo, none⟩) n yc, .int .i64 (i : Int), .int .i64 (aq : Int), .slice (some ⟨xb, 0, none⟩) n xc, .int .i64 (i : Int), z31,
          .func (.func 77) #[] #[.pointer (some ⟨I2, 0, none⟩), .pointer (some ⟨C2, 0, none⟩), .pointer (some ⟨P2, 0, none⟩)], q.1, undef, undef, undef, undef, u38], defers := [] }) ?assign ?body ?done ?stop
      case own =>
        rintro ⟨s', M'⟩ A B row ⟨M2, h1, h2, h3⟩ hAB hr
        exact ⟨M2, h1, HA.out.2.1 (s', M2) A B row h2 hAB (fun r e => ⟨by have := (hr r e).1; omega, (hr r e).2⟩), h3.grown hAB (fun r e => by have := (hr r e).1; omega)⟩
      case ownx =>
        rintro u A B row ⟨h1, h2⟩ hAB hr
        exact ⟨HA.out.2.2.1 u A B row h1 hAB (fun r e => ⟨by have := (hr r e).1; omega, (hr r e).2⟩), h2.grown hAB (fun r e => by have := (hr r e).1; omega)⟩
      case good =>
        intro s' M' q' A B row h hg hr
        exact ⟨h.1.up (Turn.up ⟨hg, fun r e => (hr r e).2⟩), h.2⟩
      case core =>
        rintro s' M' A ⟨M2, rfl, h2, h3⟩
        refine ⟨trivial, fun m hm => ?_⟩
        rcases List.mem_cons.1 hm with h | h
        · have := h3.kept.size; omega
        · exact (HA.out.2.2.2.1 _ _ _ h2).2 m h
      case assign =>
        intro nn l x A K hK
        gi_wp2
        exact hK
      case body =>
        rintro nn l s' M' ⟨vx, x⟩ A ⟨M2, rfl, h2, h3⟩ ⟨hpm, hpx⟩ hst
        dsimp only at hpm hpx ⊢
        have hyy := HA.out.2.2.2.2.1 (nn - 1) s' M2 (vx, x) A h2 ⟨hpm.ext (fun m hm => .inl (List.mem_cons_of_mem _ hm)), hpx⟩
        obtain ⟨xb', xo', xc', rfl, _⟩ := id hpm
        obtain ⟨fn, tmps, assign, body, hyr, hR⟩ := hyy
        dsimp only at hyr
        have lY1 : W.heap.size < W1.heap.size := by omega
        have nY := HD.out.2.2.2.2.2.2.2
        have aY := (h3.kept.cell (p := ⟨W.heap.size, 0, none⟩) lY1 nY).trans dY
        have HQ := Lib.hid h3
        clear h2 h3 hpm hpx hst hseq nY
        gi_wp2
        have hR' : RoundIn (Fence.wide.inRound l) (nn - 1) Tryz.prog lp fn tmps assign body A _ := hR
        refine hR'.mono ?_
        rintro e W4 (⟨rfl, s4, M4, hnx, hj4, hst4⟩ | ⟨rfl, hjx, hkx⟩)
        · have H4 := Lib.hid (And.intro hnx (And.intro hj4 hst4))
          clear hnx hj4 hst4 hR hyr
          gi_wp2
          refine ⟨s4, lp :: M4, H4.out.1, ⟨M4, rfl, H4.out.2.1, HQ.out.trans H4.out.2.2⟩, ⟨H4.out.2.2.kept.mono (fun m hm => List.mem_cons_of_mem _ hm), fun m hm => ?_⟩⟩
          rcases List.mem_cons.1 hm with h | h
          · exact .inl (h ▸ List.mem_cons_self ..)
          · rcases H4.out.2.2.new m h with h | h
            · exact .inl (List.mem_cons_of_mem _ h)
            · exact .inr h
        · have H4 := Lib.hid (And.intro hjx hkx)
          clear hjx hkx hR hyr
          gi_wp2
          refine ⟨⟨H4.out.1, (HQ.out.kept.mono (S' := lp :: M0) (fun m hm => List.mem_cons_of_mem _ hm)).transW H4.out.2 (fun m hm => ?_)⟩, H4.out.2⟩
          rcases List.mem_cons.1 hm with h | h
          · exact .inl (h ▸ List.mem_cons_self ..)
          · rcases HQ.out.new m h with h | h
            · exact .inl (List.mem_cons_of_mem _ h)
            · exact .inr h
      case done =>
        rintro D9 s' M' W5 hD9 hfin ⟨M2, rfl, h2, h3⟩ hst hdef hnD
        have HQ := Lib.hid (And.intro hD9 (And.intro hfin (And.intro h2 (And.intro h3 (And.intro hst (And.intro hdef hnD))))))
        clear hD9 hfin h2 h3 hst hdef hnD hseq
        gi_wp2
        have h9 := HQ.out.1
        have hs2 : ∀ m ∈ M2, m ∈ M0 ∨ w2.heap.size ≤ m := fun m hm => by
          rcases HQ.out.2.2.2.2.1.new m (List.mem_cons_of_mem _ hm) with h | h
          · rcases List.mem_cons.1 h with h | h
            · rcases HQ.out.2.2.2.1.new m hm with h' | h'
              · exact .inl h'
              · omega
            · exact HS.out.2.1.new m h
          · right; omega
        have hst5 : Stp w2 M0 W5 M2 := ⟨⟨HQ.out.2.2.2.2.1.kept.os.trans (b8.os.trans HS.out.2.1.kept.os), HQ.out.2.2.2.2.1.kept.tape.trans (b8.tape.trans HS.out.2.1.kept.tape), HQ.out.2.2.2.2.1.kept.output.trans (b8.output.trans HS.out.2.1.kept.output), by have := HQ.out.2.2.2.2.1.kept.size; omega, fun m hm hn0 => by
          by_cases e : m = lp
          · have h1 := HQ.out.2.2.2.1.kept.block m (by omega) hn0
            exact h1.trans (H2.out.2.block m (by omega)).symm
          · refine (HQ.out.2.2.2.2.1.kept.block m (by omega) (fun h => ?_)).trans ((b8.block m (by omega)).trans (HS.out.2.1.kept.block m hm hn0))
            rcases List.mem_cons.1 h with h | h
            · exact e h
            · rcases HS.out.2.1.new m h with h | h
              · exact hn0 h
              · omega⟩, hs2⟩
        refine ⟨⟨_, _, _, _, _, _, _, _, _, _, _, _, _, _, _, _, ⟨k + 1, s', M2, D9 :: Ds, by go_num, by omega, HQ.out.2.1.trans HS.out.2.2.2.2.2.2, HQ.out.2.2.1, hst5, rfl, List.nodup_cons.2 ⟨fun h => ?_, HS.out.2.2.1⟩, fun D hD => ?_⟩, rfl⟩, by simp [intOf]; omega⟩
        · obtain ⟨h1, h2, h3⟩ := HS.out.2.2.2.1 D9 h
          have h4 := (Array.getElem?_eq_some_iff.1 h3).1
          omega
        · rcases List.mem_cons.1 hD with h | h
          · subst h
            exact ⟨by omega, fun hm => HQ.out.2.2.2.2.2.2 (List.mem_cons_of_mem _ hm), HQ.out.2.2.2.2.2.1⟩
          · obtain ⟨h1, h2, h3⟩ := HS.out.2.2.2.1 D h
            have h4 := (Array.getElem?_eq_some_iff.1 h3).1
            have hno : D ∉ lp :: M := fun hm => by
              rcases List.mem_cons.1 hm with h | h
              · omega
              · exact h2 h
            refine ⟨h1, fun hm => ?_, (HQ.out.2.2.2.2.1.kept.block D (by omega) hno).trans ((b8.block D h4).trans h3)⟩
            rcases HQ.out.2.2.2.2.1.new D (List.mem_cons_of_mem _ hm) with h | h
            · exact hno h
            · omega
      case stop =>
        rintro D9 W5 hD9 ⟨hjx, hkx⟩ hk hdef
        have HQ := Lib.hid (And.intro hD9 (And.intro hjx (And.intro hkx (And.intro hk hdef))))
        clear hD9 hjx hkx hk hdef hseq
        gi_wp2
        have hDs : ∀ D ∈ D9 :: Ds, w2.heap.size ≤ D ∧ W5.heap[D]? = some (.deferred (some [])) := fun D hD => by
          have h9 := HQ.out.1
          rcases List.mem_cons.1 hD with h | h
          · subst h; exact ⟨by omega, HQ.out.2.2.2.2⟩
          · obtain ⟨h1, h2, h3⟩ := HS.out.2.2.2.1 D h
            have h4 := (Array.getElem?_eq_some_iff.1 h3).1
            refine ⟨h1, (HQ.out.2.2.2.1.block D (by omega) (fun hm => ?_)).trans ((b8.block D h4).trans h3)⟩
            rcases List.mem_cons.1 hm with h | h
            · omega
            · exact h2 h
        refine leaves_marks (u := .returning) (by simp) (D9 :: Ds) W5 (List.nodup_cons.2 ⟨fun h => ?_, HS.out.2.2.1⟩) (fun D hD => (hDs D hD).2) ?_
        · obtain ⟨h1, h2, h3⟩ := HS.out.2.2.2.1 D9 h
          have h4 := (Array.getElem?_eq_some_iff.1 h3).1
          have h9 := HQ.out.1
          omega
        · refine ⟨_, results_none rfl _ _ _, ⟨_, rfl⟩, .inr ?_⟩
          have := putAll (I := fun A => Jx A ∧ Kept W1 A (lp :: M0)) (B := w2.heap.size) (fun u A B row h hAB hr => ⟨HA.out.2.2.1 u A B row h.1 hAB (fun r e => ⟨by have := (hr r e).1; omega, (hr r e).2⟩), h.2.grown hAB (fun r e => by have := (hr r e).1; omega)⟩)
            (D9 :: Ds) W5 (fun D hD => ⟨(hDs D hD).1, _, (hDs D hD).2, rfl⟩) ⟨HQ.out.2.1, HQ.out.2.2.1⟩
          exact ⟨this.1, (Kept.ofBelow HA.out.2.2.2.2.2.2.1).trans this.2⟩
    · have hkl : k = L := by omega
      have HQ := Lib.hid (And.intro hs (And.intro hj (And.intro hst (And.intro hDn (And.intro hD hkl)))))
      clear hs hj hst hDn hD hkl hlvr fy fC
      have hk1 : ¬ (k : Int) < L := by omega
      gi_wp2
      have hDs := HQ.out.2.2.2.2.1
      refine leaves_marks (u := .returning) (by simp) Ds wr HQ.out.2.2.2.1 (fun D hD => (hDs D hD).2.2) ?_
      have hse : s0 ++ elsF O R (f + 1) i y = s := by
        show s0 ++ (List.range (O i).length).flatMap _ = s
        rw [HC.out.2.2.2.2, ← HQ.out.2.2.2.2.2]
        exact HQ.out.1.symm
      rw [hse]
      have := putAll (I := fun A => J s M A ∧ Stp w2 M0 A M) (B := w2.heap.size) (fun u A B row h hAB hr => ⟨HA.out.2.1 (s, M) A B row h.1 hAB (fun r e => ⟨by have := (hr r e).1; omega, (hr r e).2⟩), h.2.grown hAB (fun r e => (hr r e).1)⟩)
          Ds wr (fun D hD => ⟨(hDs D hD).1, _, (hDs D hD).2.2, rfl⟩) ⟨HQ.out.2.1, HQ.out.2.2.1⟩
      exact ⟨_, results_none rfl _ _ _, ⟨_, rfl⟩, .inl ⟨M, this.1, (Stp.below HD.out.1).trans this.2⟩⟩
theorem els172 (hn : 0 < n ∧ n ≤ 64) {G : Pm n → Prop} {O : Nat → List Nat} {R : Nat → Nat → Pm n} (hG : ChG G O R) {ab ao c bb bo e : Nat} {F : List (Pm n)} (f : Nat) : ∀ i : Nat, i + f = n → ElSeq O R ab ao c bb bo e F f i := by
  induction f with
  | zero =>
    intro i hi
    intro w I C P vy y M0 s0 hI hC hP nI nC nP hy hlv hF
    have hin : i = n := by omega
    rw [hin] at hI
    exact els172a (O := O) (R := R) hn hI hC hP hy hF
  | succ f ih =>
    intro i hi
    exact els172b hn hG hi (ih (i + 1) (by omega))
end
end Go.Proofs.YtbejhkojdiadaaaGreatDoor
