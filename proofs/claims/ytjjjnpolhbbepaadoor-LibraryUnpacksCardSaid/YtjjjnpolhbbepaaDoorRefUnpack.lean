/- The reference's Unpack. -/
import Derived.Test.YtjjjnpolhbbepaaDoorRefEntry
import Derived.Test.YtjjjnpolhbbepaaDoorUnpack
set_option linter.unusedSimpArgs false
set_option linter.unusedVariables false
namespace Go.Proofs.YtjjjnpolhbbepaaDoor
open Go.RowKit
open Plain
structure RLoop (w wr : World) (ys : List Nat) (at_ k m : Nat) (lastS : ByteArray) (v : Value) (acc : List Ent) (r : List Ent × Int × Nat) : Prop where
  bl : Below w.heap.size w wr
  c0 : wr.cell? ⟨w.heap.size, 0, none⟩ = some (.int .i64 0)
  c1 : wr.cell? ⟨w.heap.size, 1, none⟩ = some (.int .i64 0)
  fr : ∀ o, wr.frozen? ⟨w.heap.size, o, none⟩ = false
  le : at_ ≤ ys.length
  own : OwnEnts wr (w.heap.size + 1) v acc
  len : acc.length = k
  eq : r = entsA ys at_ (lastOf k lastS) acc (m - k)
  z : k = 0 → lastS = ⟨#[]⟩
theorem RLoop.drewN {w wr : World} {ys : List Nat} {at_ k m : Nat} {lastS : ByteArray} {v : Value} {acc : List Ent} {r : List Ent × Int × Nat} (h : RLoop w wr ys at_ k m lastS v acc r) (q : Nat) : RLoop w (wr.drewN q) ys at_ k m lastS v acc r :=
  ⟨below_drewN h.bl q, h.c0, h.c1, h.fr, h.le, h.own, h.len, h.eq, h.z⟩
theorem OwnEnts.keptN {w w' : World} {B : Nat} {v : Value} {es : List Ent} (h : OwnEnts w B v es) (hg : w.grownBy w' none) : OwnEnts w' B v es := by
  obtain ⟨vs, hl, ho, hi⟩ := h
  refine ⟨vs, hl, World.ownsRow.kept ho hg ?_, fun i e u he hu => ?_⟩
  · rcases owns_ge ho with e | ⟨g, e, hB⟩
    · exact .inl e
    · right; rw [e]; simp
  · obtain ⟨cs, h1, h2⟩ := hi i e u he hu
    have hne : ∀ (u : Value) (e : TypeId) (zs : List Value), Own w B u e zs → u.ownBlock = none ∨ u.ownBlock ≠ none := fun u e zs hu => by
      rcases hu.blk with e | ⟨g, _, e, hB, _⟩
      · exact .inl e
      · right; rw [e]; simp
    exact ⟨cs, h1.kept hg (hne _ _ _ h1), h2.kept hg (fun u xs hu => hne _ _ _ hu)⟩
theorem OwnGens.keptN {w w' : World} {B : Nat} {v : Value} {gs : List (List Int)} (h : OwnGens w B v gs) (hg : w.grownBy w' none) : OwnGens w' B v gs := by
  obtain ⟨cs, h1, h2⟩ := h
  have hne : ∀ (u : Value) (e : TypeId) (zs : List Value), Own w B u e zs → u.ownBlock = none ∨ u.ownBlock ≠ none := fun u e zs hu => by
    rcases hu.blk with e | ⟨g, _, e, hB, _⟩
    · exact .inl e
    · right; rw [e]; simp
  exact ⟨cs, h1.kept hg (hne _ _ _ h1), h2.kept hg (fun u xs hu => hne _ _ _ hu)⟩
/-- append of one entry: its box has just been made. -/
theorem appE {ops : Array Oper} {rest : List Oper} {o : Oper} {a : Act} {Q : Exit → Act → World → Prop} {wA : World} {B k : Nat} {v vg : Value} {nm : ByteArray} {dg : Int} {cs : List Value}
    (hgd : o.guard = none) (s x : Operand) (ho : o.op = .call { callee := .builtin .append, args := #[s, x], argTypes := #[22, 22] })
    (hs : a.eval s = v) (hx : a.eval x = .slice (some ⟨wA.heap.size, 0, none⟩) 1 1)
    (hown : wA.ownsRow B 46 3 v k cs) (hv1 : vg.oneCell' = true) (hk : k ≤ 200) (hB : B ≤ wA.heap.size)
    (h : ∀ v' w', w'.ownsRow B 46 3 v' (k + 1) (cs ++ [.string nm, .int .i64 dg, vg]) → wA.grownBy w' v.ownBlock → wpList Tryd.prog ops Q rest (a.put o.dst v') w') :
    wpList Tryd.prog ops Q (o :: rest) a (wA.alloc (.cells #[.string nm, .int .i64 dg, vg] 46)) := by
  obtain ⟨i46, hi46, hz46, hs46, hb46⟩ := info_parts Tryd.info46
  have hbox := heap_alloc_new wA (.cells #[.string nm, .int .i64 dg, vg] 46)
  refine wpList_append_own_at (w := wA.alloc (.cells #[.string nm, .int .i64 dg, vg] 46)) hgd s x 22 ho B 46 i46 zeroE 3 48 Tryd.underlying22 hi46 hz46 hs46 hb46 rfl (by omega) v k cs hs (World.ownsRow.alloc hown _) ⟨wA.heap.size, 0, none⟩ 1 1 [.string nm, .int .i64 dg, vg] hx rfl (World.news_of_block (cs := #[.string nm, .int .i64 dg, vg]) (t := 46) (fr := (0, 0)) hbox) ?_ (by unfold maxLen; omega) (by omega) (by simp; omega) ?_
  · intro u hu
    simp only [List.mem_cons, List.not_mem_nil, or_false] at hu
    rcases hu with rfl | rfl | rfl
    · rfl
    · rfl
    · exact hv1
  · intro v' w' h2 h3 _ _
    exact h v' w' h2 ((grown_alloc wA _ _).trans h3)
theorem RLoop.next {w wr wB w' : World} {ys : List Nat} {at_ k m at2 kk : Nat} {lastS nm : ByteArray} {dg : Int} {gs : List (List Int)} {v v' vg : Value} {vs : List Value} {acc : List Ent} {r : List Ent × Int × Nat}
    (h : RLoop w wr ys at_ k m lastS v acc r) (hg2 : wr.grownBy wB none) (hgens : OwnGens wB (w.heap.size + 1) vg gs) (hl : vs.length = acc.length)
    (ho : wB.ownsRow (w.heap.size + 1) 46 3 v acc.length (cellsOf3 acc vs)) (hi : ∀ (i : Nat) e u, acc[i]? = some e → vs[i]? = some u → OwnGens wB (w.heap.size + 1) u e.gens)
    (hv : w'.ownsRow (w.heap.size + 1) 46 3 v' (k + 1) (cellsOf3 acc vs ++ [.string nm, .int .i64 dg, vg])) (hg : wB.grownBy w' v.ownBlock) (hle : at2 ≤ ys.length) (hr : r = entsA ys at2 (some nm) (acc ++ [⟨nm, dg, gs⟩]) kk) (hkk : m - k = kk + 1) :
    RLoop w w' ys at2 (k + 1) m nm v' (acc ++ [⟨nm, dg, gs⟩]) r := by
  have hrow : ∀ g, v.ownBlock = some g → w.heap.size < g := fun g e => by
    rcases owns_blk ho with e1 | ⟨g', _, e1, hB, _⟩
    · rw [e1] at e; cases e
    · rw [e1] at e; cases e; omega
  have hR := block_lt_of_cell h.c0
  simp only at hR
  have hb2 := hg2.block w.heap.size hR (by simp)
  have hb3 := hg.block w.heap.size (Nat.lt_of_lt_of_le hR hg2.size) (fun e => by have := hrow _ e.symm; omega)
  have hb := hb3.trans hb2
  refine ⟨below_grownO (below_grownO h.bl hg2 (fun q e => by cases e)) hg (fun q e => by have := hrow q e; omega),
    (World.cell?_of_block (a := ⟨w.heap.size, 0, none⟩) hb).trans h.c0, (World.cell?_of_block (a := ⟨w.heap.size, 1, none⟩) hb).trans h.c1, fun o => (World.frozen?_of_block (a := ⟨w.heap.size, o, none⟩) hb).trans (h.fr o), hle,
    ents_app hl ho hi hgens (by rw [h.len]; exact hv) hg, by simp [h.len], ?_, fun e => by omega⟩
  rw [hr, show m - (k + 1) = kk by omega]
  unfold lastOf
  rw [if_neg (by omega)]
theorem UnpRes.good1 {w wr w' : World} {v : Value} {acc : List Ent} {r : List Ent × Int × Nat} (hr : r = (acc, 0, 0)) (ho : OwnEnts wr (w.heap.size + 1) v acc) (hb : Below w.heap.size w wr) (hg : wr.grownBy w' (some w.heap.size)) :
    UnpRes w r (.returned (.tuple #[v, .agg #[.int .i64 0, .int .i64 0]])) w' := by
  subst hr
  exact ⟨v, rfl, (ho.kept hg (by omega)).mono (by omega), below_grown hb hg (Nat.le_refl _)⟩
theorem slice_to23 (bb oo N c h : Nat) (h1 : h ≤ N) (h2 : N ≤ c) (h0 : 0 < c) (x : Int) (hx : x = h) (W : World) :
    (Instr.slice 23 (.slice (some ⟨bb, oo, none⟩) N c) none (some (.int .i64 x)) none).run Tryd.prog W = .ok (.slice (some ⟨bb, oo, none⟩) h c) W := by
  subst hx
  obtain ⟨i5, hi5, hz5, hs5, hb5⟩ := info_parts Tryd.info5
  have hc0 : ¬ c = 0 := by omega
  simp [Instr.slice, run_underlying Tryd.underlying23, Instr.sliceBounds, run_sliceBound, sizeOf, typeInfo, hi5, hs5, hc0, add_zero_addr, show (0:Int) ≤ h by omega, show (h:Int) ≤ c by omega, h1, h2]
theorem str_neq (x y : ByteArray) (W : World) : (binOp BinOp.neq 9 (.string x) (.string y)).run Tryd.prog W = .ok (.bool (!(decide (x = y)))) W := by
  rw [name_run, str_eq]
theorem nameOf_inj {xs ys : List Nat} (hx : ∀ x ∈ xs, x < 256) (hy : ∀ x ∈ ys, x < 256) : nameOf xs = nameOf ys ↔ xs = ys := by
  constructor
  · intro h
    have := congrArg bytesOf h
    rwa [bytesOf_nameOf hx, bytesOf_nameOf hy] at this
  · intro h; rw [h]
set_option maxRecDepth 100000 in
set_option maxHeartbeats 8000000 in
theorem runpack_calls {w : World} {a : Option Addr} {c : Nat} {b : List Nat} (h : Byts w a b) (hlt : ∀ x ∈ b, x < 256) (hlen : b.length ≤ 500000) (hcap : b.length ≤ c) :
    Calls Tryd.prog 17 #[.slice a b.length c] w (UnpRes w (unpack b)) := by
  obtain ⟨n, hn⟩ : ∃ n, b.length = n := ⟨_, rfl⟩
  rw [hn] at hlen hcap ⊢
  have hbox0 : ∀ o, (w.alloc (.cells #[.int .i64 0, .int .i64 0] 35)).frozen? ⟨w.heap.size, o, none⟩ = false := fun o => by simp
  have hk0 : Below w.heap.size w (w.alloc (.cells #[.int .i64 0, .int .i64 0] 35)) := (Below.refl _ _).alloc (Nat.le_refl _) _
  by_cases h1 : n < 10
  · have hr : unpack b = ([], 18, n) := by unfold unpack; rw [hn, if_pos h1]
    have HR := Lib.hid hr
    have hni : (n : Int) - 4 < 6 := by omega
    have hwn : IntKind.i64.wrap ((n : Int) - 4) = (n : Int) - 4 := IntWalk.i64_in _ (by omega)
    clear h hlt hr hn
    go_enter Tryd.func17, Tryd.ntmps17
    go_wp2_with fail
    exact bodyPost_ret (v := .tuple #[.slice none 0 0, .agg #[.int .i64 18, .int .i64 (n : Int)]]) (by simp [results, Tryd.results17, go_sem]) rfl (UnpRes.bad HR.out ((Below.refl _ _).alloc (Nat.le_refl _) _))
  · obtain ⟨bb, oo, rfl, hbb, _⟩ := h.at_ (k := 0) (by omega)
    obtain ⟨m4, hm4⟩ : ∃ m4, nameOf ((b.drop 0).take 4) = m4 := ⟨_, rfl⟩
    have hcv : (convert 23 9 (.slice (some ⟨bb, oo, none⟩) 4 c)).run Tryd.prog (w.alloc (.cells #[.int .i64 0, .int .i64 0] 35)) = .ok (.string m4) (w.alloc (.cells #[.int .i64 0, .int .i64 0] 35)) := by
      have := conv_str 23 Tryd.underlying23 (Row.below h hk0) 0 4 c (by omega)
      rw [hm4] at this
      simpa using this
    have hx : m4.toList = (b.take 4).map UInt8.ofNat := by
      rw [← hm4, ByteArray.toList_eq]; simp [nameOf]
    have hb4 : (b.take 4 = [67, 71, 76, 49]) ↔ m4.toList = [67, 71, 76, 49] := by
      rw [hx]
      constructor
      · intro e; rw [e]; rfl
      · intro e
        have h2 := congrArg (List.map UInt8.toNat) e
        rw [List.map_map] at h2
        have h3 : (b.take 4).map (UInt8.toNat ∘ UInt8.ofNat) = b.take 4 := by
          conv => rhs; rw [← List.map_id (b.take 4)]
          exact List.map_congr_left fun x hx => by simpa using hlt x (List.mem_of_mem_take hx)
        rw [h3] at h2
        exact h2
    have h10 : 10 ≤ n := by omega
    have hc10 : 10 ≤ c := by omega
    have hni : (6 : Int) ≤ (n : Int) - 4 := by omega
    have hwn : IntKind.i64.wrap ((n : Int) - 4) = (n : Int) - 4 := IntWalk.i64_in _ (by omega)
    have H := Lib.hid (And.intro h (And.intro hlt hn))
    clear h hlt hx hm4 h1
    by_cases hmag : b.take 4 = [67, 71, 76, 49]
    · have hne : (m4.toList == [67, 71, 76, 49]) = true := by simpa using hb4.1 hmag
      have hte : (b.take (n - 4)).length = n - 4 := by rw [List.length_take, H.out.2.2]; omega
      have htlt : ∀ x ∈ b.take (n - 4), x < 256 := fun x hx => H.out.2.1 x (List.mem_of_mem_take hx)
      have hdlt : ∀ x ∈ b.drop (n - 4), x < 256 := fun x hx => H.out.2.1 x (List.mem_of_mem_drop hx)
      have htake : ∀ W : World, Byts W (some ⟨bb, oo, none⟩) b → Byts W (some ⟨bb, oo, none⟩) (b.take (n - 4)) := fun W hW =>
        ⟨by have := hW.1; rw [byts_len] at this ⊢; rw [List.length_take]; omega, fun i u hu => hW.2 i u (by
          unfold byts at hu ⊢
          rw [List.getElem?_map, List.getElem?_take] at hu
          split at hu
          · rw [List.getElem?_map]; exact hu
          · cases hu)⟩
      have HM := Lib.hid (And.intro hmag (And.intro hte (And.intro htlt (And.intro htake hdlt))))
      clear hmag hte htlt htake hb4 hdlt
      go_enter Tryd.func17, Tryd.ntmps17
      go_upto_region 6 with (fail)
      have hc0 : (w.alloc (.cells #[.int .i64 0, .int .i64 0] 35)).cell? ⟨w.heap.size, 0, none⟩ = some (.int .i64 0) := by simp
      have hc1 : (w.alloc (.cells #[.int .i64 0, .int .i64 0] 35)).cell? ⟨w.heap.size, 1, none⟩ = some (.int .i64 0) := by simp
      clear hcv hne
      generalize w.alloc (.cells #[.int .i64 0, .int .i64 0] 35) = wS at *
      have hbS : Byts wS (some ⟨bb, oo, none⟩) b := Row.below H.out.1 hk0
      obtain ⟨S, hS⟩ : ∃ S, sumB (b.take (n - 4)) = S := ⟨_, rfl⟩
      have hS2 : S < 4294967296 := by rw [← hS]; exact sumTo_lt (by omega) _
      have hsl := fun W => slice_from 23 Tryd.underlying23 bb oo n c (n - 4) (by omega) (by omega) hcap ((n : Int) - 4) (by omega) W
      rw [show n - (n - 4) = 4 by omega] at hsl
      have hst := fun W => slice_to23 bb oo n c (n - 4) (by omega) hcap (by omega) ((n : Int) - 4) (by omega) W
      have hcD : ∀ W, Below wS.heap.size wS W → (convert 23 9 (.slice (some ⟨bb, oo + (n - 4), none⟩) 4 (c - (n - 4)))).run Tryd.prog W = .ok (.string (nameOf (b.drop (n - 4)))) W := fun W hW => by
        have := conv_str 23 Tryd.underlying23 (Row.below hbS hW) (n - 4) 4 (c - (n - 4)) (by rw [H.out.2.2]; omega)
        rwa [show (b.drop (n - 4)).take 4 = b.drop (n - 4) from List.take_of_length_le (by rw [List.length_drop, H.out.2.2]; omega)] at this
      have hsum : ∀ W, Below wS.heap.size wS W → Calls Tryd.prog 15 #[.slice (some ⟨bb, oo, none⟩) (n - 4) c] W fun e w' => e = .returned (.int .u32 (S : Int)) ∧ W = w' := fun W hW => by
        have := rsum_calls (c := c) (HM.out.2.2.2.1 W (Row.below hbS hW)) HM.out.2.2.1
        rwa [HM.out.2.1, hS] at this
      have hfour : ∀ W, Below wS.heap.size wS W → Calls Tryd.prog 30 #[.slice none 0 0, .int .u32 (S : Int)] W fun e w' => ∃ g cap, e = .returned (.slice (some ⟨g, 0, none⟩) 4 cap) ∧ (convert 23 9 (.slice (some ⟨g, 0, none⟩) 4 cap)).run Tryd.prog w' = .ok (.string (nameOf (four S))) w' ∧ Below wS.heap.size wS w' := fun W hW => by
        refine (rfour_calls (B := W.heap.size) (v := .slice none 0 0) (xs := []) S (Own.nil _ _ _) (Nat.le_refl _) hS2 (by simp)).mono ?_
        rintro e w' ⟨v', rfl, hrow⟩
        rw [List.nil_append] at hrow
        obtain ⟨g, cap, rfl, _⟩ := hrow.own.form (by simp [byts, four])
        rw [show (byts (four S)).length = 4 from rfl] at hrow ⊢
        have hb9 : Byts w' (some ⟨g, 0, none⟩) (four S) := Row.of_own (n := (four S).length) (by have := hrow.own; unfold Own at this; rw [byts_len] at this; exact this) (by simp [four]; unfold maxLen; omega)
        refine ⟨g, cap, rfl, ?_, hW.trans ((hrow.below (Nat.le_refl _) (fun g hg => by cases hg)).mono hW.size)⟩
        have := conv_str 23 Tryd.underlying23 hb9 0 4 cap (by simp [four])
        rw [show ((four S).drop 0).take 4 = four S by simp [four]] at this
        simpa using this
      obtain ⟨T, hT⟩ : ∃ T, (!((nameOf (four S)).toList == (nameOf (b.drop (n - 4))).toList)) = T := ⟨_, rfl⟩
      have hTT : T = !(decide (four S = b.drop (n - 4))) := by
        rw [← hT, str_eq]
        congr 1
        exact decide_eq_decide.2 (nameOf_inj (fun x hx => by simp [four] at hx; omega) HM.out.2.2.2.2)
      have HD := Lib.hid (And.intro hcD (And.intro hsum hfour))
      have HT := Lib.hid (And.intro hTT (And.intro hS hbS))
      have HT0 := Lib.hid hT
      generalize nameOf (four S) = sF at *
      generalize nameOf (b.drop (n - 4)) = sD at *
      clear hcD hsum hfour hT hbS hTT
      go_cut [36] (fun u36 wx => u36 = .bool T ∧ Below wS.heap.size wS wx)
      case first =>
        clear hc0 hc1
        have hcD0 := HD.out.1 wS.drew (below_self_drewN wS 1)
        have hbD0 : Below wS.heap.size wS wS.drew := below_self_drewN wS 1
        go_region_with
          (first
            | (go_at_call 15; refine (HD.out.2.1 _ (by assumption)).mono ?_; rintro e w' ⟨rfl, hw⟩; subst hw)
            | (go_at_call 30; refine (HD.out.2.2 _ (by assumption)).mono ?_; rintro e w9 ⟨g9, cap9, rfl, hcv9, hbw9⟩; have hcD9 := HD.out.1 _ hbw9))
        all_goals
          go_wp2
          go_meet
          exact ⟨by rw [HT0.out], by assumption⟩
      case rest =>
        obtain ⟨rfl, hbc⟩ := hcut
        have hR0 := block_lt_of_cell hc0
        simp only at hR0
        have c0 := (hbc.cell (p := ⟨w.heap.size, 0, none⟩) hR0).trans hc0
        have c1 := (hbc.cell (p := ⟨w.heap.size, 1, none⟩) hR0).trans hc1
        have fr : ∀ o, wc.frozen? ⟨w.heap.size, o, none⟩ = false := fun o => (hbc.frozen (p := ⟨w.heap.size, o, none⟩) hR0).trans (hbox0 o)
        have f0 := fr 0
        have f1 := fr 1
        have hbw : Below w.heap.size w wc := hk0.trans (hbc.mono hk0.size)
        have hB : Byts wc (some ⟨bb, oo, none⟩) b := Row.below H.out.1 hbw
        have HB := Lib.hid (And.intro hbw (And.intro hB fr))
        clear hc0 hc1 hbox0 hsl hst HD HT0
        cases T with
        | true =>
          have hne : ¬ four S = b.drop (n - 4) := by have := HT.out.1; simpa using this
          have hr : unpack b = ([], 14, n - 4) := by unfold unpack; rw [H.out.2.2, if_neg (by omega), if_neg (by simpa using HM.out.1), HT.out.2.1, if_pos hne]
          have HR := Lib.hid hr
          clear hr hne hbw hB hbc
          go_wp2_with fail
          obtain ⟨d0, d1, hg⟩ := res2 c0 c1 (.int .i64 14) (.int .i64 ((n : Int) - 4))
          have hbw := below_grown HB.out.1 hg (Nat.le_refl _)
          generalize (wc.setCell ⟨w.heap.size, 0, none⟩ (.int .i64 14)).setCell ⟨w.heap.size, 1, none⟩ (.int .i64 ((n : Int) - 4)) = W at *
          rw [show (n : Int) - 4 = ((n - 4 : Nat) : Int) by omega] at d1
          exact bodyPost_ret (v := .tuple #[.slice none 0 0, .agg #[.int .i64 14, .int .i64 ((n - 4 : Nat) : Int)]]) (by simp [results, Tryd.results17, go_sem, d0, d1]) rfl (UnpRes.bad HR.out hbw)
        | false =>
          have heq4 : four S = b.drop (n - 4) := by have := HT.out.1; simpa using this
          obtain ⟨x4, hx4⟩ : ∃ x4, b[4]?.getD 0 = x4 := ⟨_, rfl⟩
          obtain ⟨x5, hx5⟩ : ∃ x5, b[5]?.getD 0 = x5 := ⟨_, rfl⟩
          have hx4l : x4 < 256 := by rw [← hx4, List.getElem?_eq_getElem (by rw [H.out.2.2]; omega)]; exact H.out.2.1 _ (List.getElem_mem _)
          have hx5l : x5 < 256 := by rw [← hx5, List.getElem?_eq_getElem (by rw [H.out.2.2]; omega)]; exact H.out.2.1 _ (List.getElem_mem _)
          obtain ⟨_, _, e4, _, k4⟩ := hB.at_ (k := 4) (by rw [H.out.2.2]; omega)
          obtain ⟨_, _, e5, _, k5⟩ := hB.at_ (k := 5) (by rw [H.out.2.2]; omega)
          injection e4 with e4; injection e4 with e41 e42; subst e41; subst e42
          injection e5 with e5; injection e5 with e51 e52; subst e51; subst e52
          rw [hx4] at k4
          rw [hx5] at k5
          have hr : unpack b = if 200 < x4 * 256 + x5 then ([], 4, 4) else entsA (b.take (n - 4)) 6 none [] (x4 * 256 + x5) := by unfold unpack; rw [H.out.2.2, if_neg (by omega), if_neg (by simpa using HM.out.1), HT.out.2.1, if_neg (by simpa using heq4), hx4, hx5]
          have hsh : IntKind.i64.wrap ((x4 : Int) * 256) = (x4 : Int) * 256 := IntWalk.i64_in _ (by omega)
          have had : IntKind.i64.wrap ((x4 : Int) * 256 + x5) = (x4 : Int) * 256 + x5 := IntWalk.i64_in _ (by omega)
          have h4n : (4 : Int) < n := by omega
          have h5n : (5 : Int) < n := by omega
          have HR := Lib.hid hr
          clear hr heq4 hx4 hx5 hbw hB hbc
          go_upto_region 8 with (fail)
          go_quiet (fail)
          go_upto_region 9 with (fail)
          have hbw := below_drewN HB.out.1 nq
          have c0 : (wc.drewN nq).cell? ⟨w.heap.size, 0, none⟩ = some (.int .i64 0) := c0
          have c1 : (wc.drewN nq).cell? ⟨w.heap.size, 1, none⟩ = some (.int .i64 0) := c1
          have fr : ∀ o, (wc.drewN nq).frozen? ⟨w.heap.size, o, none⟩ = false := fr
          clear k4 k5 f0 f1 HB
          generalize wc.drewN nq = wD at *
          have f0 := fr 0
          have f1 := fr 1
          obtain ⟨m, hm⟩ : ∃ m, x4 * 256 + x5 = m := ⟨_, rfl⟩
          have hme : (x4 : Int) * 256 + x5 = (m : Int) := by omega
          rw [hme]
          have hr := HR.out
          rw [hm] at hr
          clear hm hme hsh had hx4l hx5l HR
          by_cases hm200 : 200 < m
          · rw [if_pos hm200] at hr
            have HR := Lib.hid (And.intro hr hbw)
            have hmi : (200 : Int) < m := by omega
            clear hr hbw fr
            go_wp2_with fail
            obtain ⟨d0, d1, hg⟩ := res2 c0 c1 (.int .i64 4) (.int .i64 4)
            have hbw := below_grown HR.out.2 hg (Nat.le_refl _)
            generalize (wD.setCell ⟨w.heap.size, 0, none⟩ (.int .i64 4)).setCell ⟨w.heap.size, 1, none⟩ (.int .i64 4) = W2 at *
            exact bodyPost_ret (v := .tuple #[.slice none 0 0, .agg #[.int .i64 4, .int .i64 4]]) (by simp [results, Tryd.results17, go_sem, d0, d1]) rfl (UnpRes.bad (a := 4) HR.out.1 hbw)
          · rw [if_neg hm200] at hr
            have hmi : (m : Int) ≤ 200 := by omega
            obtain ⟨ys, hys⟩ : ∃ ys, b.take (n - 4) = ys := ⟨_, rfl⟩
            have hyl : ys.length = n - 4 := by rw [← hys]; exact HM.out.2.1
            have hylt : ∀ x ∈ ys, x < 256 := by rw [← hys]; exact HM.out.2.2.1
            have hyb : ∀ W, Below w.heap.size w W → Byts W (some ⟨bb, oo, none⟩) ys := fun W hW => by rw [← hys]; exact HM.out.2.2.2.1 W (Row.below H.out.1 hW)
            rw [hys] at hr
            obtain ⟨r, hre⟩ : ∃ r, unpack b = r := ⟨_, rfl⟩
            rw [hre] at hr
            have hL : RLoop w wD ys 6 0 m ⟨#[]⟩ (.slice none 0 0) [] r := ⟨hbw, c0, c1, fr, by omega, OwnEnts.nil _ _, rfl, by rw [hr]; rfl, fun _ => rfl⟩
            have HL := Lib.hid hL
            have HY := Lib.hid (And.intro hyl (And.intro hylt (And.intro hyb hre)))
            have hst := fun W => slice_to23 bb oo n c (n - 4) (by omega) hcap (by omega) ((n : Int) - 4) (by omega) W
            clear hL hr hbw fr c0 c1 f0 f1 hyl hylt hyb hys hre hm200
            go_wp2_with fail
            go_loopw [6, 7, 8, 9] (fun u6 u7 u8 u9 wr => ∃ (k at_ : Nat) (lastS : ByteArray) (acc : List Ent), k ≤ m ∧ u9 = .int .i64 (k : Int) ∧ u7 = .int .i64 (at_ : Int) ∧ u8 = .string lastS ∧ RLoop w wr ys at_ k m lastS u6 acc r) (fun _ _ _ u9 _ => m - (intOf u9).toNat)
            case atStart => exact ⟨0, 6, _, [], Nat.zero_le _, rfl, rfl, rfl, HL.out⟩
            case round =>
              clear HL
              obtain ⟨k, at_, lastS, acc, hkm, rfl, rfl, rfl, hS⟩ := hrel
              have f0 := hS.fr 0; have f1 := hS.fr 1; have c0 := hS.c0; have c1 := hS.c1
              have hle := hS.le
              rw [HY.out.1] at hle
              have HS := Lib.hid hS
              clear hS
              by_cases hlt : k < m
              · have hent := rentry_calls (w := wr) (last := lastOf k lastS) (lastS := lastS) (at_ := at_) (c := c) (HY.out.2.2.1 wr HS.out.bl) HY.out.2.1 HY.out.1 (by omega) (by omega) (by omega) lastOf_ok (fun h0 => HS.out.z (by unfold lastOf at h0; split at h0; assumption; cases h0))
                have hkm' : (k : Int) < m := by omega
                obtain ⟨kk, hkk⟩ : ∃ kk, m - k = kk + 1 := ⟨m - k - 1, by omega⟩
                cases hE : entP ys at_ (lastOf k lastS) with
                | error z =>
                  have hz := entP_ne hE
                  have hzb : (z != 0) = true := by simpa using hz
                  have hr : r = ([], z, at_) := by rw [HS.out.eq, hkk, entsA, hE]
                  rw [hE] at hent
                  have HE := Lib.hid hent
                  have HR := Lib.hid hr
                  clear hent hE hr hkk hz
                  go_upto_region 17 with (go_at_call 37; refine HE.out.mono ?_; rintro e w2 ⟨hb2, nm2, dg2, a2, n2, c2, rfl⟩; have Hb2 := Lib.hid hb2; clear hb2)
                  have hb3 : Below wr.heap.size wr (w2.alloc (.cells #[.string nm2, .int .i64 dg2, .slice a2 n2 c2] 46)) := Hb2.out.alloc Hb2.out.size _
                  generalize w2.alloc (.cells #[.string nm2, .int .i64 dg2, .slice a2 n2 c2] 46) = w3 at *
                  have hlt0 := block_lt_of_cell c0
                  simp only at hlt0
                  have c0 := (hb3.cell (p := ⟨w.heap.size, 0, none⟩) hlt0).trans c0
                  have c1 := (hb3.cell (p := ⟨w.heap.size, 1, none⟩) hlt0).trans c1
                  have f0 := (hb3.frozen (p := ⟨w.heap.size, 0, none⟩) hlt0).trans f0
                  have f1 := (hb3.frozen (p := ⟨w.heap.size, 1, none⟩) hlt0).trans f1
                  have HB := Lib.hid (HS.out.bl.trans (hb3.mono HS.out.bl.size))
                  clear hb3 Hb2
                  go_wp2_with fail
                  obtain ⟨d0, d1, hg⟩ := res2 c0 c1 (.int .i64 z) (.int .i64 (at_ : Int))
                  have hbw := below_grown HB.out hg (Nat.le_refl _)
                  generalize (w3.setCell ⟨w.heap.size, 0, none⟩ (.int .i64 z)).setCell ⟨w.heap.size, 1, none⟩ (.int .i64 (at_ : Int)) = W at *
                  have hfin := UnpRes.bad HR.out hbw
                  rw [← HY.out.2.2.2] at hfin
                  exact bodyPost_ret (v := .tuple #[.slice none 0 0, .agg #[.int .i64 z, .int .i64 (at_ : Int)]]) (by simp [results, Tryd.results17, go_sem, d0, d1]) rfl hfin
                | ok x =>
                  have hr := HS.out.eq
                  rw [hkk, entsA, hE] at hr
                  rw [hE] at hent
                  have HE := Lib.hid hent
                  have HR := Lib.hid hr
                  have hxl := entP_le hE
                  obtain ⟨x, at2⟩ := x
                  obtain ⟨nm, dg, gs⟩ := x
                  clear hent hE hr
                  go_upto_region 17 with (go_at_call 37; refine HE.out.mono ?_; rintro e w2 ⟨hb2, v, rfl, ho2⟩; obtain ⟨va, vc, rfl⟩ := ho2.form; have Hg2 := Lib.hid (And.intro hb2 ho2); clear hb2 ho2)
                  obtain ⟨v, hv⟩ : ∃ v, v = Value.slice va gs.length vc := ⟨_, rfl⟩
                  try simp only at HR
                  try simp only at hxl
                  try simp only at Hg2
                  try dsimp only
                  rw [← hv] at Hg2 ⊢
                  have hbx := Box3.new w2 (.string nm) (.int .i64 dg) v 46
                  have hv1 : v.oneCell' = true := by rw [hv]; rfl
                  have hg2 : wr.grownBy w2 none := grown_below Hg2.out.1 none
                  have hgA : wr.grownBy (w2.alloc (.cells #[.string nm, .int .i64 dg, v] 46)) none := hg2.trans (grown_alloc _ _ _)
                  have hownA := HS.out.own.keptN hgA
                  have hgensA := (Hg2.out.2.keptN (grown_alloc w2 (.cells #[.string nm, .int .i64 dg, v] 46) none))
                  obtain ⟨vs, hl, ho, hi⟩ := hownA
                  rw [HS.out.len] at ho
                  have hRlt := block_lt_of_cell c0
                  simp only at hRlt
                  have hpw : w.heap.size + 1 ≤ (w2.alloc (.cells #[.string nm, .int .i64 dg, v] 46)).heap.size := by have := hgA.size; omega
                  have HO := Lib.hid (And.intro hl (And.intro ho (And.intro hi (And.intro (hgensA.mono (show w.heap.size + 1 ≤ wr.heap.size by omega)) (And.intro hgA hbx)))))
                  have hx0 := hbx.a0
                  have hx1 := hbx.a1
                  have hx2 := hbx.a2
                  have hXlt := hbx.lt
                  have hnX : ∀ g, u6.ownBlock = some g → g ≠ w2.heap.size := fun g e => by
                    rcases owns_blk ((HS.out.own.keptN hg2).choose_spec.2.1) with e1 | ⟨g', _, e1, _, hlt, _⟩
                    · rw [e1] at e; cases e
                    · rw [e1] at e; cases e; omega
                  clear hl ho hi hbx hgA hg2 hgensA hv c0 c1 f0 f1
                  generalize w2.alloc (.cells #[.string nm, .int .i64 dg, v] 46) = wA at *
                  generalize w2.heap.size = Y at *
                  go_upto_region 20 with (at_builtin; refine appE (B := w.heap.size + 1) (k := k) rfl (.tmp 72) (.tmp 74) rfl rfl rfl HO.out.2.1 hv1 (by omega) hpw ?_; intro v9 w9 hown9 hg9; have g5 : w9.cell? ⟨Y, 0, none⟩ = some (.string nm) := (World.cell?_of_block (a := ⟨Y, 0, none⟩) (hg9.block Y hXlt (fun e => hnX _ e.symm rfl))).trans hx0; have H9 := Lib.hid (And.intro hown9 hg9); clear hown9 hg9)
                  clear hx0 hx1 hx2
                  go_quiet (fail)
                  go_wp2_with fail
                  have hrd := HS.out.next HO.out.2.2.2.2.1 HO.out.2.2.2.1 HO.out.1 (by rw [HS.out.len]; exact HO.out.2.1) HO.out.2.2.1 H9.out.1 H9.out.2 hxl HR.out hkk
                  exact ⟨⟨k + 1, at2, nm, _, by omega, by go_num, rfl, rfl, hrd.drewN _⟩, by simp [intOf]; omega⟩
              · obtain rfl : k = m := by omega
                have hr := HS.out.eq
                rw [Nat.sub_self, entsA, HY.out.1] at hr
                have hkk : ¬ ((k : Int) < (k : Int)) := by omega
                by_cases hend : at_ < n - 4
                · rw [if_pos hend] at hr
                  have HR := Lib.hid hr
                  have hne : ((at_ : Int) != (n : Int) - 4) = true := by simp; omega
                  clear hr
                  go_wp2_with fail
                  obtain ⟨d0, d1, hg⟩ := res2 c0 c1 (.int .i64 3) (.int .i64 (at_ : Int))
                  have hbw := below_grown HS.out.bl hg (Nat.le_refl _)
                  generalize (wr.setCell ⟨w.heap.size, 0, none⟩ (.int .i64 3)).setCell ⟨w.heap.size, 1, none⟩ (.int .i64 (at_ : Int)) = W at *
                  have hfin := UnpRes.bad HR.out hbw
                  rw [← HY.out.2.2.2] at hfin
                  exact bodyPost_ret (v := .tuple #[.slice none 0 0, .agg #[.int .i64 3, .int .i64 (at_ : Int)]]) (by simp [results, Tryd.results17, go_sem, d0, d1]) rfl hfin
                · rw [if_neg hend] at hr
                  have HR := Lib.hid hr
                  have hne : ((at_ : Int) != (n : Int) - 4) = false := by simp; omega
                  clear hr
                  go_wp2_with fail
                  obtain ⟨d0, d1, hg⟩ := res2 c0 c1 (.int .i64 0) (.int .i64 0)
                  have hfin := UnpRes.good1 HR.out HS.out.own HS.out.bl hg
                  generalize (wr.setCell ⟨w.heap.size, 0, none⟩ (.int .i64 0)).setCell ⟨w.heap.size, 1, none⟩ (.int .i64 0) = W at *
                  rw [← HY.out.2.2.2] at hfin
                  exact bodyPost_ret (v := .tuple #[u6, .agg #[.int .i64 0, .int .i64 0]]) (by simp [results, Tryd.results17, go_sem, d0, d1]) rfl hfin
    · have hr : unpack b = ([], 3, 0) := by unfold unpack; rw [H.out.2.2, if_neg (by omega), if_pos hmag]
      have hne : (m4.toList == [67, 71, 76, 49]) = false := by
        have : ¬ m4.toList = [67, 71, 76, 49] := fun e => hmag (hb4.2 e)
        simpa using this
      have HR := Lib.hid hr
      clear hr hmag hb4
      go_enter Tryd.func17, Tryd.ntmps17
      go_wp2_with fail
      exact bodyPost_ret (v := .tuple #[.slice none 0 0, .agg #[.int .i64 3, .int .i64 0]]) (by simp [results, Tryd.results17, go_sem]) rfl (UnpRes.bad (a := 0) HR.out ((Below.refl _ _).alloc (Nat.le_refl _) _))
end Go.Proofs.YtjjjnpolhbbepaaDoor
