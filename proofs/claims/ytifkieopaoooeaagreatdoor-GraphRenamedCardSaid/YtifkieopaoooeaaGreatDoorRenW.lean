/- The kit's Mul: the product of two permutations. · Move of a valid graph by a permutation: the result lies in new blocks. · All that the law of renaming needs to know about a graph and two permutations: plain. · Boxes of graphs that are written again. · What the functions say of a graph and of the moved graph. -/
import Derived.Test.YtifkieopaoooeaaGreatDoorKitI
import Derived.Test.YtifkieopaoooeaaGreatDoorPlainRen
import Derived.Test.YtifkieopaoooeaaGreatDoorMoveA
import Derived.Test.YtifkieopaoooeaaGreatDoorPlainTri
import Derived.Test.YtifkieopaoooeaaGreatDoorRefP
import Derived.Test.YtifkieopaoooeaaGreatDoorLawKit
import Derived.Test.YtifkieopaoooeaaGreatDoorKitD
import Derived.Test.YtifkieopaoooeaaGreatDoorMoveB
import Derived.Test.YtifkieopaoooeaaGreatDoorDistP
set_option linter.unusedSimpArgs false
set_option linter.unusedVariables false
namespace Go.Proofs.YtifkieopaoooeaaGreatDoor
open Go.RowKit Plain
theorem permL_succ (k : Nat) (f : Nat → Nat) : permL (k + 1) f = permL k f ++ [(f k : Int)] := by
  unfold permL; rw [List.range_succ, List.map_append]; rfl
set_option maxRecDepth 100000 in
set_option maxHeartbeats 1000000 in
theorem mul_calls {n : Nat} {s t s2 : Nat → Nat} (a b : Option Addr) (ca cb : Nat) (w : World) (hn : n ≤ 100) (hp : PermOf n s t) (ha : Ints w a (permL n s)) (hb : Ints w b (permL n s2)) :
    Calls Tryz.prog 47 #[.slice a n ca, .slice b n cb] w fun e w' => ∃ a' c', e = .returned (.slice a' n c') ∧ Ints w' a' (permL n fun i => s2 (s i)) ∧ Below w.heap.size w w' := by
  obtain ⟨i3, hi3, hz3, hs3, hb3⟩ := info_parts Tryz.info3
  have I3 := Lib.hid (And.intro hi3 (And.intro hz3 (And.intro hs3 hb3)))
  clear hi3 hz3 hs3 hb3
  have H0 := Lib.hid (And.intro ha (And.intro hb hp))
  clear ha hb hp
  obtain ⟨D, hD⟩ : ∃ D, D = w.heap.size := ⟨_, rfl⟩
  have HD := Lib.hid hD
  rw [← hD]
  clear hD
  go_enter Tryz.func47, Tryz.ntmps47
  go_wp2
  go_loopw [5, 6] (fun v kk wr => ∃ k : Nat, k ≤ n ∧ kk = .int .i64 k ∧ Own wr D v 3 (ints (permL k fun i => s2 (s i))) ∧ Below D w wr) (fun _ kk _ => n - (intOf kk).toNat)
  case atStart => exact ⟨0, by omega, rfl, Own.nil _ _ _, Below.refl _ _⟩
  case round =>
    obtain ⟨k, hk, rfl, ho, hbl⟩ := hrel
    have hDr : D ≤ wr.heap.size := by have := hbl.size; have := HD.out; omega
    by_cases hlt : k < n
    · obtain ⟨ga, oa, rfl, _, hca⟩ := (H0.out.1.below (by rw [← HD.out]; exact hbl)).at_ (k := k) (by rw [permL_len]; exact hlt)
      have hsk := H0.out.2.2.lt k hlt
      obtain ⟨gb, ob, rfl, _, hcb⟩ := (H0.out.2.1.below (by rw [← HD.out]; exact hbl)).at_ (k := s k) (by rw [permL_len]; exact hsk)
      rw [permL_at hlt] at hca
      rw [permL_at hsk] at hcb
      have hsl : (ints (permL k fun i => s2 (s i))).length < 1099511627776 := by rw [ints_len, permL_len]; omega
      have H := Lib.hid (And.intro ho hbl)
      clear ho hbl
      go_wp2_with (at_builtin; refine app1 rfl (.tmp 13) (.tmp 21) 60 3 rfl i3 (.int .i64 0) 8 Tryz.underlying60 I3.out.1 I3.out.2.1 I3.out.2.2.1 I3.out.2.2.2 rfl (by omega) D (.int .i64 (s2 (s k) : Nat)) u5 (ints (permL k fun i => s2 (s i))) rfl H.out.1 rfl rfl hsl hDr ?_; intro v' w' h2 h3 h4; have H9 := Lib.hid (And.intro h2 h3); clear h2 h3 h4)
      refine ⟨⟨k + 1, by omega, by go_num, ?_, ?_⟩, by simp [intOf]; omega⟩
      · rw [permL_succ]
        have := H9.out.1
        simpa [ints] using this
      · refine H.out.2.grown H9.out.2 hDr (fun g hg => ?_)
        rcases H.out.1.blk with e | ⟨g', _, e, hB, _⟩
        · rw [e] at hg; cases hg
        · rw [e] at hg; cases hg; exact hB
    · obtain rfl : k = n := by omega
      obtain ⟨a', c', rfl, hr⟩ := ho.row (by rw [ints_len, permL_len]; unfold maxLen; omega)
      rw [ints_len, permL_len]
      have H := Lib.hid (And.intro hr hbl)
      clear ho hr hbl
      go_wp2
      go_ret
      exact ⟨a', c', rfl, H.out.1, H.out.2⟩
end Go.Proofs.YtifkieopaoooeaaGreatDoor

namespace Go.Proofs.YtifkieopaoooeaaGreatDoor
open Go.RowKit Plain PlainG
/-- An address is of a block from D on. -/
def From (D : Nat) (a : Option Addr) : Prop := ∀ q, a = some q → D ≤ q.block
def MakeF (w : World) (r : Gr × Int) (e : Ending) (w' : World) : Prop :=
  ∃ a c b d, e = .returned (.tuple #[.agg #[.int .i64 r.1.n, .slice a r.1.es.length c, .slice b r.1.cs.length d], .int .i64 r.2]) ∧ Edg w' a r.1.es ∧ Ints w' b r.1.cs ∧ Below w.heap.size w w' ∧ From w.heap.size a ∧ From w.heap.size b
set_option maxRecDepth 100000 in
set_option maxHeartbeats 4000000 in
theorem gmoveF_calls {w : World} {a b p : Option Addr} {c d e : Nat} {g : Gr} {pl : List Int} (he : Edg w a g.es) (hc : Ints w b g.cs) (hp : Ints w p pl) (hpl : pl.length ≤ 1000) (hgz : chkGr g = 0) (hgp : permB g.n pl = true) :
    Calls Tryz.prog 35 #[.agg #[.int .i64 g.n, .slice a g.es.length c, .slice b g.cs.length d], .slice p pl.length e] w fun r w' => MakeF w (moveA g pl) r w' := by
  obtain ⟨W1, hW1, hb1, hs1, hres⟩ := two_graphs (w := w) (.int .i64 g.n) (.slice a g.es.length c) (.slice b g.cs.length d)
  have K27 := gcheck_calls (c := c) (d := d) (he.below hb1) (hc.below hb1)
  obtain ⟨z, hz⟩ : ∃ z, moveA g pl = z := ⟨_, rfl⟩
  rw [hz]
  obtain ⟨E, hE⟩ : ∃ E, chkGr g = E := ⟨_, rfl⟩
  rw [hE] at K27 hgz
  have hm : ∀ w2, Below W1.heap.size W1 w2 → Below (w.heap.size + 2) W1 w2 := fun w2 h => h.mono (by omega)
  obtain ⟨x0, x1, x2, x3, _, _⟩ := hres W1 (Below.refl _ _)
  have x4 := zres_cells x3
  obtain ⟨s0, s1, s2, s3⟩ := x4
  have s30 := s3 0
  have s31 := s3 1
  have s32 := s3 2
  obtain ⟨L, hL⟩ : ∃ L, g.es.length = L := ⟨_, rfl⟩
  obtain ⟨M, hM⟩ : ∃ M, g.cs.length = M := ⟨_, rfl⟩
  obtain ⟨Q, hQ⟩ : ∃ Q, pl.length = Q := ⟨_, rfl⟩
  have hE0 : E = 0 := hgz
  obtain ⟨N, hN, hN24, hel, hev, hcl⟩ := chk_edges (hE.trans hE0)
  have K82 := fun w' (h : Below w.heap.size w w') => labelling_calls (w := w') e (N : Int) (hp.below h) (by omega)
  have hB : permB N pl = true := by rw [← hN]; exact hgp
  rw [hB] at K82
  obtain ⟨p1, p2, p3⟩ := permB_iff.1 hB
  have hQN : pl.length = N := by omega
  have hz0 : z = (movedG N pl g.es g.cs, 0) := by rw [← hz]; unfold moveA; rw [if_neg (by rw [hE]; simpa using hE0), hN, hB, if_pos rfl, Int.toNat_natCast]
  have K83 := fun w' (h : Below w.heap.size w w') => movedP_ok (w := w') (c := c) (d := d) (e := e) (he.below h) (hc.below h) (hp.below h) hN24 (by omega) hev hcl hQN p2 p3
  rw [hcl] at hM
  subst hM
  rw [hN] at K27 hres hW1 x0 ⊢
  rw [hL] at K27 hres hW1 x1 K83 ⊢
  rw [hcl] at K27 hres hW1 x2 ⊢
  rw [hQN] at K82 ⊢
  have H := Lib.hid (And.intro K27 (And.intro K82 (And.intro hres (And.intro hz0 (And.intro hm K83)))))
  have HW := Lib.hid hW1
  clear K27 K82 hres hz0 hm hW1 hz hE hN hel hev hcl hB he hc hp hL hQ s3 K83 p1 p2 p3 hQN hpl hs1 x3 hgz hgp
  subst hE0
  go_enter Tryz.func35, Tryz.ntmps35
  go_upto_region 1 with (fail)
  rw [← HW.out]
  go_wp2_with (first
    | (go_at_call 27; refine H.out.1.mono ?_; rintro e w2 ⟨rfl, hw2⟩; obtain ⟨x0, x1, x2, x3, x4, x5⟩ := H.out.2.2.1 _ (H.out.2.2.2.2.1 _ hw2); obtain ⟨s0, s1, s2, s3⟩ := zres_cells x3; have s30 := s3 0; have s31 := s3 1; have s32 := s3 2; have HA := Lib.hid (And.intro x4 (H.out.2.2.2.2.1 _ hw2)); clear hw2 x3 x4 s3)
    | (go_at_call 82; refine (H.out.2.1 _ HA.out.1).mono ?_; rintro e w3 ⟨rfl, hw3⟩; have hw3' := HA.out.2.trans (hw3.mono x5); obtain ⟨x0, x1, x2, x3, x4, x5⟩ := H.out.2.2.1 _ hw3'; obtain ⟨s0, s1, s2, s3⟩ := zres_cells x3; have s30 := s3 0; have s31 := s3 1; have s32 := s3 2; have HB := Lib.hid (And.intro x4 (And.intro hw3' x5)); clear hw3 x3 x4 s3 hw3')
    | (go_at_call 83; refine (H.out.2.2.2.2.2 _ HB.out.1).mono ?_; rintro e w4 ⟨a1, c1, b1, d1, rfl, q1, q2, q3⟩; have hw4' := HB.out.2.1.trans (q3.mono HB.out.2.2); obtain ⟨x0, x1, x2, x3, x4, x5⟩ := H.out.2.2.1 _ hw4'; obtain ⟨s0, s1, s2, s3⟩ := zres_cells x3; have s30 := s3 0; have s31 := s3 1; have s32 := s3 2; have HC := Lib.hid (And.intro q1 (And.intro q2 (And.intro x4 x3))); clear q1 q2 q3 x3 x4 s3 hw4'))
  obtain ⟨es', hes'⟩ : ∃ es', (movedG N pl g.es g.cs).es = es' := ⟨_, rfl⟩
  obtain ⟨W, hW, y0, y1, y2, y3, y4⟩ := res_out (.int .i64 (N : Int)) (.slice a1 (movedG N pl g.es g.cs).es.length c1) (.slice b1 N d1) HC.out.2.2.2
  rw [← hW]
  have hz1 := H.out.2.2.2.1
  refine bodyPost_ret (v := .tuple #[.agg #[.int .i64 N, .slice a1 (movedG N pl g.es g.cs).es.length c1, .slice b1 N d1], .int .i64 0]) (by simp [results, Tryz.results35, go_sem, y0, y1, y2]) rfl ?_
  rw [hz1]
  have hEW : OwnE W _ 69 (.slice a1 (movedG N pl g.es g.cs).es.length c1) (movedG N pl g.es g.cs).es := ownsRow_block HC.out.1 fun g hg => y4 g (by have := (HC.out.1.block_lt hg).2; have := HB.out.2.2; omega)
  have hUW : Own W _ (.slice b1 N d1) 3 (ints (movedG N pl g.es g.cs).cs) := ownsRow_block HC.out.2.1 fun g hg => y4 g (by have := (HC.out.2.1.block_lt hg).2; have := HB.out.2.2; omega)
  have hcl : (movedG N pl g.es g.cs).cs.length = N := movTo_len _ _ _ _
  refine ⟨a1, c1, b1, d1, (by simp only [hcl]; rfl), hEW.edg (by have := canon_len N (adj (g.es.map (mvE pl))); have : N * N ≤ 24 * 24 := Nat.mul_le_mul hN24 hN24; simp only [movedG]; omega), hUW.toInts (by rw [hcl]; unfold maxLen; omega), HC.out.2.2.1.trans (y3.mono (by omega)), fun q hq => ?_, fun q hq => ?_⟩
  · subst hq; have := (HC.out.1.block_lt (g := q.block) rfl).2; have := HB.out.2.2; omega
  · subst hq; have := (HC.out.2.1.block_lt (g := q.block) rfl).2; have := HB.out.2.2; omega
end Go.Proofs.YtifkieopaoooeaaGreatDoor

namespace Go.Proofs.YtifkieopaoooeaaGreatDoor
open Plain PlainG
theorem distA_ok2 {g : Gr} {N i k : Nat} (hg : chkGr g = 0) (hn : g.n = N) (hi : i < N) (hk : k < N) : distA g i k = (lev N (adj g.es) i N k, 0) := by
  unfold distA
  have hw : withA g [(i : Int), (k : Int)] = 0 := by
    unfold withA badW vert
    rw [if_neg (by simpa using hg), if_neg]
    simp [hn]
    omega
  rw [hw]; simp [hn]
theorem refined_ok {g : Gr} {N : Nat} (hg : chkGr g = 0) (hn : g.n = N) : refinedA g = (refineL N (collect (g.cs.map fun x => [x])) (matF N (adjF g.es)), 0) := by
  obtain ⟨h1, h2, h3, h4, h5⟩ := chkGr_ok.1 hg
  have hl : g.cs.length = N := by omega
  unfold refinedA matG
  rw [if_pos hg, hn, Int.toNat_natCast]
  have ho : (ofA g.cs).1 = collect (g.cs.map fun x => [x]) := by unfold ofA; rw [if_neg (by omega)]
  rw [ho]
  exact refineA_ok ((of_goodA hl).chk (by omega)) (matF_isMat N _)
theorem good_short {n : Nat} {l : List (List Int)} (h : Plain.Good n l) : l.length ≤ n ∧ ∀ c ∈ l, c.length ≤ n := by
  have ht := good_total h
  have key : ∀ l : List (List Int), (∀ c ∈ l, c ≠ []) → l.length ≤ l.flatten.length ∧ ∀ c ∈ l, c.length ≤ l.flatten.length := by
    intro l
    induction l with
    | nil => intro _; simp
    | cons c l ih =>
      intro hne
      obtain ⟨h1, h2⟩ := ih fun c hc => hne c (by simp [hc])
      have hc : 0 < c.length := List.length_pos_iff.2 (hne c (by simp))
      rw [List.flatten_cons, List.length_append, List.length_cons]
      refine ⟨by omega, fun d hd => ?_⟩
      rcases List.mem_cons.1 hd with e | hd
      · subst e; omega
      · have := h2 d hd; omega
  have := key l h.ne
  rwa [ht] at this
/-- What the law of renaming asks of a graph and two permutations. -/
structure RenF (N : Nat) (g : Gr) (P Q PQ : List Int) (s : Nat → Nat) (h a b m : Gr) (x y : List (List Int)) (l : List Int) (V : Nat → Nat → Int) : Prop where
  hn : h.n = N
  an : a.n = N
  bn : b.n = N
  mn : m.n = N
  ok : chkGr h = 0
  mov : moveA g P = (h, 0)
  com : complA g = (a, 0)
  com2 : complA h = (b, 0)
  movc : moveA a P = (b, 0)
  ref : refinedA g = (x, 0)
  ref2 : refinedA h = (y, 0)
  good : GoodA N x
  ren : renL N P x = y
  mov2 : moveA h Q = (m, 0)
  movp : moveA g PQ = (m, 0)
  wrd : wordA g PQ = (l, 0)
  wrd2 : wordA h Q = (l, 0)
  dis : ∀ i k, i < N → k < N → distA g i k = (V i k, 0) ∧ distA h (s i) (s k) = (V i k, 0)
theorem ren_facts {N : Nat} {s t s2 t2 : Nat → Nat} (hp : PermOf N s t) (hp2 : PermOf N s2 t2) {g : Gr} (hg : chkGr g = 0) (hn : g.n = N) :
    ∃ h a b m x y l V, RenF N g (permL N s) (permL N s2) (permL N fun i => s2 (s i)) s h a b m x y l V := by
  obtain ⟨a1, a2, a3, a4, a5⟩ := chkGr_ok.1 hg
  have hN : N ≤ 24 := by omega
  have hcl : g.cs.length = N := by omega
  have he := (chkE_srt a3).2.1
  rw [hn] at he
  have htn : g.n.toNat = N := by omega
  have hm : moveA g (permL N s) = (movedG N (permL N s) g.es g.cs, 0) := by
    unfold moveA; rw [if_neg (by simpa using hg), hn, if_pos (permB_permL hp), Int.toNat_natCast]
  have hch := mv_chk hp (es := g.es) hN hcl a5
  have hcg : complA g = (⟨N, canon N (fun i k => !adj g.es i k), g.cs⟩, 0) := by
    unfold complA; rw [if_neg (by simpa using hg), htn, hn]
  have hca : chkGr ⟨N, canon N (fun i k => !adj g.es i k), g.cs⟩ = 0 := chkGr_ok.2 ⟨by simp, by simp; omega, chkE_canon _ _, by simp; omega, a5⟩
  have hmp : moveA g (permL N fun i => s2 (s i)) = (movedG N (permL N fun i => s2 (s i)) g.es g.cs, 0) := by
    unfold moveA; rw [if_neg (by simpa using hg), hn, if_pos (permB_permL (hp.comp hp2)), Int.toNat_natCast]
  have hm2 : moveA (movedG N (permL N s) g.es g.cs) (permL N s2) = (movedG N (permL N fun i => s2 (s i)) g.es g.cs, 0) := by
    rw [← mv_mv hp hp2 hg hn]
    unfold moveA; rw [if_neg (by simpa using hch), show (movedG N (permL N s) g.es g.cs).n = (N : Int) from rfl, if_pos (permB_permL hp2), Int.toNat_natCast]
  refine ⟨movedG N (permL N s) g.es g.cs, ⟨N, canon N (fun i k => !adj g.es i k), g.cs⟩, ⟨N, canon N (fun i k => !adj (movedG N (permL N s) g.es g.cs).es i k), (movedG N (permL N s) g.es g.cs).cs⟩, movedG N (permL N fun i => s2 (s i)) g.es g.cs, _, _, wordG (movedG N (permL N fun i => s2 (s i)) g.es g.cs), fun i k => lev N (adj g.es) i N k, rfl, rfl, rfl, rfl, hch, hm, hcg, ?_, ?_, refined_ok hg hn, refined_ok hch rfl, ?_, ?_, hm2, hmp, ?_, ?_, ?_⟩
  · unfold complA; rw [if_neg (by simpa using hch)]; rfl
  · unfold moveA
    rw [if_neg (by simpa using hca), if_pos (permB_permL hp), compl_mv hp hg hn]
    rfl
  · exact refineL_goodA (of_goodA hcl)
  · refine ref_mv hp hcl fun i k hi hk => ?_
    rw [matF_mat (hp.lt i hi) (hp.lt k hk), matF_mat hi hk]
    unfold adjF
    rw [adj_mv hp he (hp.lt i hi) (hp.lt k hk), hp.left i hi, hp.left k hk]
  · unfold wordA; rw [hmp]; rfl
  · unfold wordA; rw [hm2]; rfl
  · intro i k hi hk
    refine ⟨distA_ok2 hg hn hi hk, ?_⟩
    rw [distA_ok2 hch rfl (hp.lt i hi) (hp.lt k hk), lev_moved hp he hi hk]
end Go.Proofs.YtifkieopaoooeaaGreatDoor

namespace Go.Proofs.YtifkieopaoooeaaGreatDoor
open Go.RowKit Plain PlainG
theorem Edg.keptF {w w' : World} {a : Option Addr} {es : List (Int × Int)} {S : List Nat} (h : Edg w a es) (k : Kept w w' S) (hf : ∀ q, a = some q → q.block ∉ S) : Edg w' a es :=
  ⟨h.len, fun i e he => by
    obtain ⟨b, o, ha, hl, h1, h2⟩ := h.at_ i e he
    have hs := hf _ ha
    exact ⟨b, o, ha, Nat.lt_of_lt_of_le hl k.size, (k.cell (p := ⟨b, o + i * 2, none⟩) hl hs).trans h1, (k.cell (p := ⟨b, o + i * 2 + 1, none⟩) hl hs).trans h2⟩⟩
theorem Ints.keptF {w w' : World} {a : Option Addr} {xs : List Int} {S : List Nat} (h : Ints w a xs) (k : Kept w w' S) (hf : ∀ q, a = some q → q.block ∉ S) : Ints w' a xs :=
  ⟨h.1, fun i u hu => by
    obtain ⟨b, o, ha, hl, h1⟩ := h.2 i u hu
    have hs := hf _ ha
    exact ⟨b, o, ha, Nat.lt_of_lt_of_le hl k.size, (k.cell (p := ⟨b, o + i, none⟩) hl hs).trans h1⟩⟩
/-- A graph's box that may be written. -/
structure BxF (w : World) (X : Nat) (u0 u1 u2 : Value) : Prop where
  c0 : w.cell? ⟨X, 0, none⟩ = some u0
  c1 : w.cell? ⟨X, 1, none⟩ = some u1
  c2 : w.cell? ⟨X, 2, none⟩ = some u2
  fr : ∀ o, w.frozen? ⟨X, o, none⟩ = false
  lt : X < w.heap.size
section
variable {w w' : World} {X : Nat} {u0 u1 u2 : Value}
theorem BxF.keptF {S : List Nat} (h : BxF w X u0 u1 u2) (k : Kept w w' S) (hX : X ∉ S) : BxF w' X u0 u1 u2 :=
  ⟨(k.cell (p := ⟨X, 0, none⟩) h.lt hX).trans h.c0, (k.cell (p := ⟨X, 1, none⟩) h.lt hX).trans h.c1, (k.cell (p := ⟨X, 2, none⟩) h.lt hX).trans h.c2, fun o => (k.frozen (p := ⟨X, o, none⟩) h.lt hX).trans (h.fr o), Nat.lt_of_lt_of_le h.lt k.size⟩
theorem BxF.below (h : BxF w X u0 u1 u2) (k : Below w.heap.size w w') : BxF w' X u0 u1 u2 := h.keptF (Kept.ofBelow (S := []) k) (by simp)
theorem BxF.new (w : World) (u0 u1 u2 : Value) : BxF (w.alloc (.cells #[u0, u1, u2] 25)) w.heap.size u0 u1 u2 := ⟨by simp, by simp, by simp, fun o => World.frozen?_alloc_new w _ _ _, by simp⟩
/-- The box is written. -/
def set3 (w : World) (X : Nat) (u0 u1 u2 : Value) : World := ((w.setCell ⟨X, 0, none⟩ u0).setCell ⟨X, 1, none⟩ u1).setCell ⟨X, 2, none⟩ u2
theorem set3_kept (w : World) (X : Nat) (u0 u1 u2 : Value) : Kept w (set3 w X u0 u1 u2) [X] := by
  have h : ∀ (w : World) (o : Nat) (u : Value), Kept w (w.setCell ⟨X, o, none⟩ u) [X] := fun w o u => Kept.ofGrown (grown_put o u) (fun k hk => by cases hk; simp)
  exact ((h _ 0 u0).trans (h _ 1 u1)).trans (h _ 2 u2)
theorem BxF.set {v0 v1 v2 : Value} (h : BxF w X u0 u1 u2) : BxF (set3 w X v0 v1 v2) X v0 v1 v2 := by
  have hne : ∀ (i j : Nat), i ≠ j → (⟨X, i, none⟩ : Addr) ≠ ⟨X, j, none⟩ := fun i j hij e => by injection e with _ e; exact hij e
  refine ⟨?_, ?_, ?_, fun o => ?_, ?_⟩
  · unfold set3
    rw [World.cell?_setCell_other _ _ _ _ (hne _ _ (by decide)), World.cell?_setCell_other _ _ _ _ (hne _ _ (by decide))]
    exact World.cell?_setCell_same _ _ _ h.c0
  · unfold set3
    rw [World.cell?_setCell_other _ _ _ _ (hne _ _ (by decide))]
    exact World.cell?_setCell_same _ _ _ ((World.cell?_setCell_other _ _ _ _ (hne _ _ (by decide))).trans h.c1)
  · unfold set3
    exact World.cell?_setCell_same _ _ _ (((World.cell?_setCell_other _ _ _ _ (hne _ _ (by decide))).trans (World.cell?_setCell_other _ _ _ _ (hne _ _ (by decide)))).trans h.c2)
  · unfold set3
    rw [World.frozen?_setCell, World.frozen?_setCell, World.frozen?_setCell]; exact h.fr o
  · exact Nat.lt_of_lt_of_le h.lt (set3_kept w X v0 v1 v2).size
end
theorem From.ne {D X : Nat} {a : Option Addr} (h : From D a) (hX : X < D) : ∀ q, a = some q → q.block ∉ [X] := fun q hq hm => by
  have := h q hq
  simp at hm
  omega
theorem keepC3 {D : Nat} {W1 W W3 : World} {b1 : Nat} {v1 v2 v3 : Value} (hD : W1.heap.size = D)
    (h : W.cell? ⟨b1, 0, none⟩ = some v1 ∧ W.cell? ⟨b1, 1, none⟩ = some v2 ∧ W.cell? ⟨b1, 2, none⟩ = some v3 ∧ Below D W1 W) (k : Below W.heap.size W W3) :
    W3.cell? ⟨b1, 0, none⟩ = some v1 ∧ W3.cell? ⟨b1, 1, none⟩ = some v2 ∧ W3.cell? ⟨b1, 2, none⟩ = some v3 ∧ Below D W1 W3 :=
  ⟨(k.cell (p := ⟨b1, 0, none⟩) (block_lt_of_cell h.1)).trans h.1, (k.cell (p := ⟨b1, 1, none⟩) (block_lt_of_cell h.2.1)).trans h.2.1, (k.cell (p := ⟨b1, 2, none⟩) (block_lt_of_cell h.2.2.1)).trans h.2.2.1, bchain h.2.2.2 hD k⟩
theorem Kept.drew {w w' : World} {S : List Nat} (h : Kept w w' S) : Kept w w'.drew S := ⟨h.os, h.tape, h.output, h.size, h.block⟩
def BxE (W : World) (X : Nat) : Prop := ∃ u0 u1 u2, BxF W X u0 u1 u2
section
variable {U W W3 : World} {X0 X3 : Nat} {v0 v1 v2 u0 u1 u2 : Value}
theorem keepS (h : W.cell? ⟨X0, 0, none⟩ = some v0 ∧ W.cell? ⟨X0, 1, none⟩ = some v1 ∧ W.cell? ⟨X0, 2, none⟩ = some v2 ∧ Kept U W [X3] ∧ BxE W X3) (k : Below W.heap.size W W3) :
    W3.cell? ⟨X0, 0, none⟩ = some v0 ∧ W3.cell? ⟨X0, 1, none⟩ = some v1 ∧ W3.cell? ⟨X0, 2, none⟩ = some v2 ∧ Kept U W3 [X3] ∧ BxE W3 X3 :=
  ⟨(k.cell (p := ⟨X0, 0, none⟩) (block_lt_of_cell h.1)).trans h.1, (k.cell (p := ⟨X0, 1, none⟩) (block_lt_of_cell h.2.1)).trans h.2.1, (k.cell (p := ⟨X0, 2, none⟩) (block_lt_of_cell h.2.2.1)).trans h.2.2.1, h.2.2.2.1.trans (Kept.ofBelow k), h.2.2.2.2.elim fun a h => h.elim fun b h => h.elim fun c h => ⟨a, b, c, h.below k⟩⟩
theorem keepS_set (hne : X0 ≠ X3) (h : W.cell? ⟨X0, 0, none⟩ = some v0 ∧ W.cell? ⟨X0, 1, none⟩ = some v1 ∧ W.cell? ⟨X0, 2, none⟩ = some v2 ∧ Kept U W [X3] ∧ BxE W X3) :
    (((W.setCell ⟨X3, 0, none⟩ u0).setCell ⟨X3, 1, none⟩ u1).setCell ⟨X3, 2, none⟩ u2).cell? ⟨X0, 0, none⟩ = some v0 ∧ (((W.setCell ⟨X3, 0, none⟩ u0).setCell ⟨X3, 1, none⟩ u1).setCell ⟨X3, 2, none⟩ u2).cell? ⟨X0, 1, none⟩ = some v1 ∧ (((W.setCell ⟨X3, 0, none⟩ u0).setCell ⟨X3, 1, none⟩ u1).setCell ⟨X3, 2, none⟩ u2).cell? ⟨X0, 2, none⟩ = some v2 ∧ Kept U (((W.setCell ⟨X3, 0, none⟩ u0).setCell ⟨X3, 1, none⟩ u1).setCell ⟨X3, 2, none⟩ u2) [X3] ∧ BxE (((W.setCell ⟨X3, 0, none⟩ u0).setCell ⟨X3, 1, none⟩ u1).setCell ⟨X3, 2, none⟩ u2) X3 := by
  have k := set3_kept W X3 u0 u1 u2
  have hn : X0 ∉ [X3] := by simpa using hne
  exact ⟨(k.cell (p := ⟨X0, 0, none⟩) (block_lt_of_cell h.1) hn).trans h.1, (k.cell (p := ⟨X0, 1, none⟩) (block_lt_of_cell h.2.1) hn).trans h.2.1, (k.cell (p := ⟨X0, 2, none⟩) (block_lt_of_cell h.2.2.1) hn).trans h.2.2.1, h.2.2.2.1.trans k, h.2.2.2.2.elim fun a h => h.elim fun b h => h.elim fun c h => ⟨_, _, _, h.set⟩⟩
theorem lastS {V : World} {RR : Nat} {P Q R : Prop} (hb : Below RR V U) (hR : RR ≤ X3) (hU : RR ≤ U.heap.size) (h : P ∧ Q ∧ R ∧ Kept U W [X3] ∧ BxE W X3) : Below RR V W :=
  hb.trans (h.2.2.2.1.below hU (by simpa using hR))
theorem exS {P Q R : Prop} (k : Below W.heap.size W W3) (h : P ∧ Q ∧ R ∧ Kept U W [X3] ∧ BxE W X3) : Kept U W3 [X3] ∧ U.heap.size ≤ W.heap.size ∧ ∃ u0 u1 u2, BxF W3 X3 u0 u1 u2 :=
  ⟨h.2.2.2.1.trans (Kept.ofBelow k), h.2.2.2.1.size, h.2.2.2.2.elim fun a h => h.elim fun b h => h.elim fun c h => ⟨a, b, c, h.below k⟩⟩
/-- What is there after the region that writes a graph into its box. -/
theorem fin14 {D X3 L M : Nat} {N : Int} {a b : Option Addr} {c d : Nat} {es : List E2} {cs : List Int} (hx : BxF W X3 u0 u1 u2) (he : Edg W a es) (hc : Ints W b cs) (fa : From D a) (fb : From D b) (hD : X3 < D) :
    BxF (((W.setCell ⟨X3, 0, none⟩ (.int .i64 N)).setCell ⟨X3, 1, none⟩ (.slice a L c)).setCell ⟨X3, 2, none⟩ (.slice b M d)) X3 (.int .i64 N) (.slice a L c) (.slice b M d) ∧ Edg (((W.setCell ⟨X3, 0, none⟩ (.int .i64 N)).setCell ⟨X3, 1, none⟩ (.slice a L c)).setCell ⟨X3, 2, none⟩ (.slice b M d)) a es ∧ Ints (((W.setCell ⟨X3, 0, none⟩ (.int .i64 N)).setCell ⟨X3, 1, none⟩ (.slice a L c)).setCell ⟨X3, 2, none⟩ (.slice b M d)) b cs :=
  ⟨hx.set, he.keptF (set3_kept W X3 _ _ _) (fa.ne hD), hc.keptF (set3_kept W X3 _ _ _) (fb.ne hD)⟩
end
theorem lastC3 {V C W : World} {RR RC : Nat} {P Q R : Prop} (hb : Below RR V C) (hR : RR ≤ RC) (h : P ∧ Q ∧ R ∧ Below RC C W) : Below RR V W := hb.trans (h.2.2.2.mono hR)
theorem exC3 {C W W3 : World} {RC : Nat} {P Q R : Prop} (hC : C.heap.size = RC) (k : Below W.heap.size W W3) (h : P ∧ Q ∧ R ∧ Below RC C W) : Below RC C W3 := bchain h.2.2.2 hC k
theorem lastC5 {V W : World} {RR : Nat} {P Q R S T : Prop} (h : P ∧ Q ∧ R ∧ S ∧ T ∧ Below RR V W) : Below RR V W := h.2.2.2.2.2
theorem exC5 {C W W3 : World} {RC : Nat} {P Q R S T : Prop} (hC : C.heap.size = RC) (k : Below W.heap.size W W3) (h : P ∧ Q ∧ R ∧ S ∧ T ∧ Below RC C W) : Below RC C W3 := bchain h.2.2.2.2.2 hC k
end Go.Proofs.YtifkieopaoooeaaGreatDoor

namespace Go.Proofs.YtifkieopaoooeaaGreatDoor
open Go.RowKit Plain PlainG
theorem keepC5 {D : Nat} {W1 W W3 : World} {b1 : Nat} {p4 p5 : Addr} {v1 v2 v3 v4 v5 : Value} (hD : W1.heap.size = D)
    (h : W.cell? ⟨b1, 0, none⟩ = some v1 ∧ W.cell? ⟨b1, 1, none⟩ = some v2 ∧ W.cell? ⟨b1, 2, none⟩ = some v3 ∧ W.cell? p4 = some v4 ∧ W.cell? p5 = some v5 ∧ Below D W1 W) (k : Below W.heap.size W W3) :
    W3.cell? ⟨b1, 0, none⟩ = some v1 ∧ W3.cell? ⟨b1, 1, none⟩ = some v2 ∧ W3.cell? ⟨b1, 2, none⟩ = some v3 ∧ W3.cell? p4 = some v4 ∧ W3.cell? p5 = some v5 ∧ Below D W1 W3 :=
  ⟨(k.cell (p := ⟨b1, 0, none⟩) (block_lt_of_cell h.1)).trans h.1, (k.cell (p := ⟨b1, 1, none⟩) (block_lt_of_cell h.2.1)).trans h.2.1, (k.cell (p := ⟨b1, 2, none⟩) (block_lt_of_cell h.2.2.1)).trans h.2.2.1, (k.cell (block_lt_of_cell h.2.2.2.1)).trans h.2.2.2.1, (k.cell (block_lt_of_cell h.2.2.2.2.1)).trans h.2.2.2.2.1, bchain h.2.2.2.2.2 hD k⟩
/-- What is there after the graph was moved, and what the functions say of it. -/
structure RenW (N : Nat) (V : World) (s : Nat → Nat) (a0 b0 a1 b1 p q : Option Addr) (c0 d0 c1 d1 e f L0 M0 L1 M1 L2 M2 L3 M3 L4 M4 Lx Ly Ll : Nat) (es2 es3 es4 : List E2) (cs2 cs3 cs4 PQ l : List Int) (x y : List (List Int)) (D : Nat → Nat → Int) : Prop where
  com : ∀ W, Below V.heap.size V W → Calls Tryz.prog 37 #[.agg #[.int .i64 N, .slice a0 L0 c0, .slice b0 M0 d0]] W fun r w' => ∃ a c b d, r = .returned (.tuple #[.agg #[.int .i64 N, .slice a L2 c, .slice b M2 d], .int .i64 0]) ∧ Edg w' a es2 ∧ Ints w' b cs2 ∧ Below W.heap.size W w'
  com2 : ∀ W, Below V.heap.size V W → Calls Tryz.prog 37 #[.agg #[.int .i64 N, .slice a1 L1 c1, .slice b1 M1 d1]] W fun r w' => ∃ a c b d, r = .returned (.tuple #[.agg #[.int .i64 N, .slice a L3 c, .slice b M3 d], .int .i64 0]) ∧ Edg w' a es3 ∧ Ints w' b cs3 ∧ Below W.heap.size W w'
  movc : ∀ W a b c d, Below V.heap.size V W → Edg W a es2 → Ints W b cs2 → Calls Tryz.prog 35 #[.agg #[.int .i64 N, .slice a L2 c, .slice b M2 d], .slice p N e] W fun r w' => ∃ a c b d, r = .returned (.tuple #[.agg #[.int .i64 N, .slice a L3 c, .slice b M3 d], .int .i64 0]) ∧ Edg w' a es3 ∧ Ints w' b cs3 ∧ Below W.heap.size W w'
  same3 : ∀ W a b c d a' b' c' d', Edg W a es3 → Ints W b cs3 → Edg W a' es3 → Ints W b' cs3 → Calls Tryz.prog 16 #[.agg #[.int .i64 N, .slice a L3 c, .slice b M3 d], .agg #[.int .i64 N, .slice a' L3 c', .slice b' M3 d']] W fun r w' => r = .returned (.bool true) ∧ Below W.heap.size W w'
  ref : ∀ W, Below V.heap.size V W → Calls Tryz.prog 41 #[.agg #[.int .i64 N, .slice a0 L0 c0, .slice b0 M0 d0]] W fun r w' => ∃ a c, r = .returned (.tuple #[.slice a Lx c, .int .i64 0]) ∧ Rows w' a x ∧ Below W.heap.size W w'
  ref2 : ∀ W, Below V.heap.size V W → Calls Tryz.prog 41 #[.agg #[.int .i64 N, .slice a1 L1 c1, .slice b1 M1 d1]] W fun r w' => ∃ a c, r = .returned (.tuple #[.slice a Ly c, .int .i64 0]) ∧ Rows w' a y ∧ Below W.heap.size W w'
  ins : ∀ W a c, Rows W a x → Calls Tryz.prog 22 #[.int .i64 (N : Int), .slice a Lx c] W fun r w' => r = .returned (.bool true) ∧ w' = W
  ren : ∀ W a c, Below V.heap.size V W → Rows W a x → Calls Tryz.prog 46 #[.slice a Lx c, .slice p N e] W fun r w' => ∃ a c, r = .returned (.slice a Ly c) ∧ Rows w' a y ∧ Below W.heap.size W w'
  samey : ∀ W a c a' c', Rows W a y → Rows W a' y → Calls Tryz.prog 34 #[.slice a Ly c, .slice a' Ly c'] W fun r w' => r = .returned (.bool true) ∧ Below W.heap.size W w'
  mov2 : ∀ W, Below V.heap.size V W → Calls Tryz.prog 35 #[.agg #[.int .i64 N, .slice a1 L1 c1, .slice b1 M1 d1], .slice q N f] W fun r w' => ∃ a c b d, r = .returned (.tuple #[.agg #[.int .i64 N, .slice a L4 c, .slice b M4 d], .int .i64 0]) ∧ Edg w' a es4 ∧ Ints w' b cs4 ∧ Below W.heap.size W w' ∧ From W.heap.size a ∧ From W.heap.size b
  mul : ∀ W, Below V.heap.size V W → Calls Tryz.prog 47 #[.slice p N e, .slice q N f] W fun r w' => ∃ a c, r = .returned (.slice a N c) ∧ Ints w' a PQ ∧ Below W.heap.size W w'
  movp : ∀ W a c, Below V.heap.size V W → Ints W a PQ → Calls Tryz.prog 35 #[.agg #[.int .i64 N, .slice a0 L0 c0, .slice b0 M0 d0], .slice a N c] W fun r w' => ∃ a c b d, r = .returned (.tuple #[.agg #[.int .i64 N, .slice a L4 c, .slice b M4 d], .int .i64 0]) ∧ Edg w' a es4 ∧ Ints w' b cs4 ∧ Below W.heap.size W w' ∧ From W.heap.size a ∧ From W.heap.size b
  wrd : ∀ W a c, Below V.heap.size V W → Ints W a PQ → Calls Tryz.prog 43 #[.agg #[.int .i64 N, .slice a0 L0 c0, .slice b0 M0 d0], .slice a N c] W fun r w' => ∃ a c, r = .returned (.tuple #[.slice a Ll c, .int .i64 0]) ∧ Ints w' a l ∧ Below W.heap.size W w'
  wrd2 : ∀ W, Below V.heap.size V W → Calls Tryz.prog 43 #[.agg #[.int .i64 N, .slice a1 L1 c1, .slice b1 M1 d1], .slice q N f] W fun r w' => ∃ a c, r = .returned (.tuple #[.slice a Ll c, .int .i64 0]) ∧ Ints w' a l ∧ Below W.heap.size W w'
  same4 : ∀ W a b c d a' b' c' d', Edg W a es4 → Ints W b cs4 → Edg W a' es4 → Ints W b' cs4 → Calls Tryz.prog 16 #[.agg #[.int .i64 N, .slice a L4 c, .slice b M4 d], .agg #[.int .i64 N, .slice a' L4 c', .slice b' M4 d']] W fun r w' => r = .returned (.bool true) ∧ Below W.heap.size W w'
  samel : ∀ W a c a' c', Ints W a l → Ints W a' l → Calls Tryz.prog 31 #[.slice a Ll c, .slice a' Ll c'] W fun r w' => r = .returned (.bool true) ∧ Below W.heap.size W w'
  dis : ∀ W, Below V.heap.size V W → ∀ i k : Nat, i < N → k < N → Calls Tryz.prog 23 #[.agg #[.int .i64 N, .slice a0 L0 c0, .slice b0 M0 d0], .int .i64 i, .int .i64 k] W fun r w' => r = .returned (.tuple #[.int .i64 (D i k), .int .i64 0]) ∧ Below W.heap.size W w'
  dis2 : ∀ W, Below V.heap.size V W → ∀ i k : Nat, i < N → k < N → Calls Tryz.prog 23 #[.agg #[.int .i64 N, .slice a1 L1 c1, .slice b1 M1 d1], .int .i64 (s i : Nat), .int .i64 (s k : Nat)] W fun r w' => r = .returned (.tuple #[.int .i64 (D i k), .int .i64 0]) ∧ Below W.heap.size W w'
  pts : ∀ W, Below V.heap.size V W → ∀ i, i < N → ∃ g o, p = some ⟨g, o, none⟩ ∧ W.cell? ⟨g, o + i, none⟩ = some (.int .i64 (s i : Nat))
theorem ren_world {N : Nat} {V : World} {s t s2 t2 : Nat → Nat} (hp : PermOf N s t) (hp2 : PermOf N s2 t2) {g h a b m : Gr} {x y : List (List Int)} {l : List Int} {D : Nat → Nat → Int} (hg : chkGr g = 0) (hn : g.n = N) (hN : N ≤ 24) (hF : RenF N g (permL N s) (permL N s2) (permL N fun i => s2 (s i)) s h a b m x y l D)
    {a0 b0 a1 b1 p q : Option Addr} (c0 d0 c1 d1 e f : Nat) (gE0 : Edg V a0 g.es) (gI0 : Ints V b0 g.cs) (gE1 : Edg V a1 h.es) (gI1 : Ints V b1 h.cs) (gP : Ints V p (permL N s)) (gQ : Ints V q (permL N s2)) :
    RenW N V s a0 b0 a1 b1 p q c0 d0 c1 d1 e f g.es.length g.cs.length h.es.length h.cs.length a.es.length a.cs.length b.es.length b.cs.length m.es.length m.cs.length x.length y.length l.length a.es b.es m.es a.cs b.cs m.cs (permL N fun i => s2 (s i)) l x y D := by
  obtain ⟨gn, ge, gc⟩ := g
  obtain ⟨hn1, he, hc⟩ := h
  obtain ⟨an, ae, ac⟩ := a
  obtain ⟨bn, be, bc⟩ := b
  obtain ⟨mn, me, mc⟩ := m
  have hh := hF.ok
  obtain ⟨e1, e2, e3, e4, _, f1, f2, f3, f4, f5, f6, f7, f8, f9, f10, f11, f12, f13⟩ := hF
  dsimp only at hn e1 e2 e3 e4 gE0 gI0 gE1 gI1
  subst hn e1 e2 e3 e4
  obtain ⟨n1, n2⟩ := good_short f7.good
  constructor
  · intro W hW
    have := gcompl_calls (c := c0) (d := d0) (g := ⟨(N : Int), ge, gc⟩) (gE0.below hW) (gI0.below hW)
    rwa [f2] at this
  · intro W hW
    have := gcompl_calls (c := c1) (d := d1) (g := ⟨(N : Int), he, hc⟩) (gE1.below hW) (gI1.below hW)
    rwa [f3] at this
  · intro W a b c d hW h1 h2
    have := gmove_calls (c := c) (d := d) (e := e) (g := ⟨(N : Int), ae, ac⟩) h1 h2 (gP.below hW) (by rw [permL_len]; omega)
    rwa [f4, permL_len] at this
  · intro W a b c d a' b' c' d' h1 h2 h3 h4
    have := sameGraph_calls (g := ⟨(N : Int), be, bc⟩) (h := ⟨(N : Int), be, bc⟩) (c1 := c) (d1 := d) (c2 := c') (d2 := d') h1 h2 h3 h4
    rwa [sameG_iff.2 rfl] at this
  · intro W hW
    have := grefined_calls (c := c0) (d := d0) (g := ⟨(N : Int), ge, gc⟩) (gE0.below hW) (gI0.below hW)
    rwa [f5] at this
  · intro W hW
    have := grefined_calls (c := c1) (d := d1) (g := ⟨(N : Int), he, hc⟩) (gE1.below hW) (gI1.below hW)
    rwa [f6] at this
  · intro W a c h
    exact inside_calls N a c x W h f7.good.inr
  · intro W a c hW h
    have := renamed_calls N a p c e x (permL N s) W h (gP.below hW) (permL_len _ _) (by omega) f7.good.inr (by omega) (fun c hc => by have := n2 c hc; omega)
    rwa [f8] at this
  · intro W a c a' c' h1 h2
    refine (sameCells_calls a a' c c' y y W h1 h2).mono ?_
    rintro r w' ⟨rfl, k, rfl⟩
    exact ⟨by simp, below_drew1 _ _⟩
  · intro W hW
    have := gmoveF_calls (c := c1) (d := d1) (e := f) (g := ⟨(N : Int), he, hc⟩) (gE1.below hW) (gI1.below hW) (gQ.below hW) (by rw [permL_len]; omega) hh (permB_permL hp2)
    rwa [f9, permL_len] at this
  · intro W hW
    exact mul_calls p q e f W (by omega) hp (gP.below hW) (gQ.below hW)
  · intro W a c hW h
    have := gmoveF_calls (c := c0) (d := d0) (e := c) (g := ⟨(N : Int), ge, gc⟩) (gE0.below hW) (gI0.below hW) h (by rw [permL_len]; omega) hg (permB_permL (hp.comp hp2))
    rwa [f10, permL_len] at this
  · intro W a c hW h
    have := gword_calls (c := c0) (d := d0) (e := c) (g := ⟨(N : Int), ge, gc⟩) (gE0.below hW) (gI0.below hW) h (by rw [permL_len]; omega)
    rwa [f11, permL_len] at this
  · intro W hW
    have := gword_calls (c := c1) (d := d1) (e := f) (g := ⟨(N : Int), he, hc⟩) (gE1.below hW) (gI1.below hW) (gQ.below hW) (by rw [permL_len]; omega)
    rwa [f12, permL_len] at this
  · intro W a b c d a' b' c' d' h1 h2 h3 h4
    have := sameGraph_calls (g := ⟨(N : Int), me, mc⟩) (h := ⟨(N : Int), me, mc⟩) (c1 := c) (d1 := d) (c2 := c') (d2 := d') h1 h2 h3 h4
    rwa [sameG_iff.2 rfl] at this
  · intro W a c a' c' h1 h2
    refine (sameInts_calls a a' c c' l l W h1 h2).mono ?_
    rintro r w' ⟨rfl, k, rfl⟩
    exact ⟨by simp, below_drew1 _ _⟩
  · intro W hW i k hi hk
    have := dist_calls (c := c0) (d := d0) (g := ⟨(N : Int), ge, gc⟩) i k (gE0.below hW) (gI0.below hW)
    rwa [(f13 i k hi hk).1] at this
  · intro W hW i k hi hk
    have := dist_calls (c := c1) (d := d1) (g := ⟨(N : Int), he, hc⟩) (s i : Nat) (s k : Nat) (gE1.below hW) (gI1.below hW)
    rwa [(f13 i k hi hk).2] at this
  · intro W hW i hi
    obtain ⟨g, o, e, _, hc⟩ := (gP.below hW).at_ (k := i) (by rw [permL_len]; exact hi)
    rw [permL_at hi] at hc
    exact ⟨g, o, e, hc⟩
end Go.Proofs.YtifkieopaoooeaaGreatDoor
