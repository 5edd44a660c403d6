/- The reference's perm: the permutation of given digits. -/
import Derived.Test.YtjjjnpolhbbepaaDoorRefBits
import Derived.Deep.RegionHeld3
import Derived.Deep.DeepCutAuto
set_option linter.unusedSimpArgs false
set_option linter.unusedVariables false
namespace Go.Proofs.YtjjjnpolhbbepaaDoor
open Go.RowKit
open Plain
theorem slice_to3 (bb oo N c h : Nat) (h1 : h ≤ N) (h2 : N ≤ c) (W : World) :
    (Instr.slice 56 (.slice (some ⟨bb, oo, none⟩) N c) none (some (.int .i64 (h : Int))) none).run Tryd.prog W = .ok (.slice (some ⟨bb, oo, none⟩) h c) W := by
  obtain ⟨i3, hi3, hz3, hs3, hb3⟩ := info_parts Tryd.info3
  by_cases hc0 : c = 0
  · subst hc0
    obtain rfl : N = 0 := by omega
    obtain rfl : h = 0 := by omega
    simp [Instr.slice, run_underlying Tryd.underlying56, Instr.sliceBounds, run_sliceBound, sizeOf, typeInfo, hi3, hs3]
  · simp [Instr.slice, run_underlying Tryd.underlying56, Instr.sliceBounds, run_sliceBound, sizeOf, typeInfo, hi3, hs3, hc0, add_zero_addr, show (0:Int) ≤ h by omega, show (h:Int) ≤ c by omega, h1, h2]
theorem slice_from3 (bb oo N c l : Nat) (h1 : l ≤ N) (h2 : N ≤ c) : ∃ o', (l < N → o' = oo + l) ∧ ∀ W,
    (Instr.slice 56 (.slice (some ⟨bb, oo, none⟩) N c) (some (.int .i64 (l : Int))) none none).run Tryd.prog W = .ok (.slice (some ⟨bb, o', none⟩) (N - l) (c - l)) W := by
  obtain ⟨i3, hi3, hz3, hs3, hb3⟩ := info_parts Tryd.info3
  by_cases hcc : c = l
  · refine ⟨oo, fun h => by omega, fun W => ?_⟩
    simp [Instr.slice, run_underlying Tryd.underlying56, Instr.sliceBounds, run_sliceBound, sizeOf, typeInfo, hi3, hs3, hcc, add_zero_addr, show (0:Int) ≤ l by omega, show (l:Int) ≤ N by omega, show (N:Int) ≤ l by omega, show N ≤ l by omega]
  · refine ⟨oo + l, fun _ => rfl, fun W => ?_⟩
    simp [Instr.slice, run_underlying Tryd.underlying56, Instr.sliceBounds, run_sliceBound, sizeOf, typeInfo, hi3, hs3, h1, h2, hcc, add_zero_addr, show (0:Int) ≤ l by omega, show (l:Int) ≤ N by omega, show (N:Int) ≤ c by omega]
/-- append at a step of a region that draws its order. -/
theorem step_app3 {w : World} {ops : Array Oper} {o : Oper} {a : Act} {K : Act → World → Prop} {Q : Exit → Act → World → Prop} {E : Prop} (hgd : o.guard = none) (s x : Operand)
    (ho : o.op = .call { callee := .builtin .append, args := #[s, x], argTypes := #[56, 56] })
    (B : Nat) (v : Value) (xs : List Value) (hs : a.eval s = v) (hown : Own w B v 3 xs)
    (ad : Addr) (m c : Nat) (news : List Value) (hx : a.eval x = .slice (some ad) m c) (hl : news.length = m) (hnews : ∀ j u, news[j]? = some u → w.cell? (ad.add j) = some u) (h1 : ∀ u ∈ news, u.oneCell' = true)
    (hn : xs.length + m < 1099511627776) (hbase : B ≤ w.heap.size)
    (h : ∀ v' w', RowTo w w' B 3 v v' (xs ++ news) → K (a.put o.dst v') w') :
    if Region.wanted o (yielded ops a.tmps) = true then Oper.wp Tryd.prog o a w K Q else E := by
  have hw : Region.wanted o (yielded ops a.tmps) = true := by simp [Region.wanted, hgd]
  rw [if_pos hw]
  obtain ⟨i3, hi3, hz3, hs3, hb3⟩ := info_parts Tryd.info3
  obtain ⟨v', w', hr, h2, h3, _, h5⟩ := run_append_own_at (P := Tryd.prog) w B 56 o.type 3 i3 _ 1 8 Tryd.underlying56 hi3 hz3 hs3 hb3 rfl (by omega) v xs.length xs hown ad m c news (by omega) hnews h1 (by unfold maxLen; omega) (by omega) hbase
  unfold Oper.wp execOp
  simp only [ho, resolve, invoke, builtin, Sem.run_bind, Sem.run_pure, Result.andThen_ok, List.map_toArray, List.map_cons, List.map_nil, hs, hx, hr]
  refine h v' w' ⟨?_, h3, ?_⟩
  · unfold Own
    rw [List.length_append, hl]
    exact h2
  · rcases h5 with e | e
    · exact .inl e
    · exact .inr ⟨_, e, Nat.le_refl _⟩
theorem permL_step {L : List Int} {k : Nat} {ds : List Nat} : permL L (k :: ds) = match L[k]? with
    | none => none
    | some v => (permL (L.eraseIdx k) ds).map (v :: ·) := by
  cases hk : L[k]? <;> simp [permL, hk]
theorem base_take (n : Nat) : (base n).length = n := by simp [base]
theorem base_snoc (k : Nat) : ints (base (k + 1)) = ints (base k) ++ [.int .i64 (k : Int)] := by
  simp [ints, base, List.range_succ]
theorem ints_take {L : List Int} {q j : Nat} {u : Value} (h : (ints (L.take q))[j]? = some u) : (ints L)[j]? = some u := by
  unfold ints at h ⊢
  rw [List.getElem?_map, List.getElem?_take] at h
  split at h
  · rw [List.getElem?_map]; exact h
  · cases h
theorem ints_drop {L : List Int} {q j : Nat} {u : Value} (h : (ints (L.drop q))[j]? = some u) : (ints L)[q + j]? = some u := by
  unfold ints at h ⊢
  rw [List.getElem?_map, List.getElem?_drop] at h
  rw [List.getElem?_map]; exact h
/-- What perm hands back. -/
def PermRes (w : World) (n : Nat) (ds : List Nat) (e : Ending) (w' : World) : Prop :=
  Below w.heap.size w w' ∧ match permL (base n) ds with
    | none => e = .returned (.slice none 0 0)
    | some q => ∃ v, e = .returned v ∧ Own w' w.heap.size v 3 (ints q)
theorem PermRes.bad {w w' : World} {n : Nat} {ds : List Nat} (h : permL (base n) ds = none) (hb : Below w.heap.size w w') : PermRes w n ds (.returned (.slice none 0 0)) w' := by
  refine ⟨hb, ?_⟩
  rw [h]
theorem PermRes.good {w w' : World} {n : Nat} {ds : List Nat} {q : List Int} {v : Value} (h : permL (base n) ds = some q) (ho : Own w' w.heap.size v 3 (ints q)) (hb : Below w.heap.size w w') : PermRes w n ds (.returned v) w' := by
  refine ⟨hb, ?_⟩
  rw [h]
  exact ⟨v, rfl, ho⟩
structure PermSt (w wr : World) (n : Nat) (ds : List Nat) (k : Nat) (u3 u5 : Value) (L P : List Int) : Prop where
  left : Own wr w.heap.size u3 3 (ints L)
  out : Own wr w.heap.size u5 3 (ints P)
  ne : u5.ownBlock = none ∨ u3.ownBlock ≠ u5.ownBlock
  ll : L.length = n - k
  pl : P.length = k
  eq : permL (base n) ds = (permL L (ds.drop k)).map (P ++ ·)
  below : Below w.heap.size w wr
set_option maxRecDepth 100000 in
set_option maxHeartbeats 4000000 in
theorem rperm48_calls {w : World} {a : Option Addr} {c : Nat} {ds : List Nat} {n : Nat} (h : Ints w a (ds.map Int.ofNat)) (hn : ds.length = n) (h64 : n ≤ 64) :
    Calls Tryd.prog 48 #[.slice a n c] w (PermRes w n ds) := by
  have H := Lib.hid (And.intro h hn)
  obtain ⟨i3, hi3, hz3, hs3, hb3⟩ := info_parts Tryd.info3
  have I3 := Lib.hid (And.intro hi3 (And.intro hz3 (And.intro hs3 hb3)))
  clear h hn hi3 hz3 hs3 hb3
  go_enter Tryd.func48, Tryd.ntmps48
  go_wp2
  go_loopw [3, 4] (fun u3 u4 wr => ∃ k : Nat, k ≤ n ∧ u4 = .int .i64 (k : Int) ∧ Own wr w.heap.size u3 3 (ints (base k)) ∧ Below w.heap.size w wr) (fun _ u4 _ => n - (intOf u4).toNat)
  case atStart => exact ⟨0, Nat.zero_le _, rfl, Own.nil _ _ _, Below.refl _ _⟩
  case round =>
    obtain ⟨k, hk, rfl, hO, hb⟩ := hrel
    by_cases hlt : k < n
    · have hbl : (ints (base k)).length < 1099511627776 := by rw [ints_len, base_take]; omega
      have HO := Lib.hid (And.intro hO (And.intro hb hbl))
      have hsz := hb.size
      clear hO hb hbl
      go_wp2_with (at_builtin; refine app1 rfl (.tmp 13) (.tmp 15) 56 3 rfl i3 (.int .i64 0) 8 Tryd.underlying56 I3.out.1 I3.out.2.1 I3.out.2.2.1 I3.out.2.2.2 rfl (by omega) w.heap.size (.int .i64 (k : Int)) _ (ints (base k)) rfl HO.out.1 rfl rfl HO.out.2.2 hsz ?_; intro v8 w8 h2 h3 h4; have H8 := Lib.hid (RowTo.mk h2 h3 h4); clear h2 h3 h4)
      refine ⟨⟨k + 1, by omega, by go_num, ?_, HO.out.2.1.trans (H8.out.below hsz HO.out.1.ge)⟩, by simp [intOf]; omega⟩
      rw [base_snoc]
      exact H8.out.own
    · obtain rfl : k = n := by omega
      have hP : PermSt w wr k ds 0 u3 (.slice none 0 0) (base k) [] := ⟨hO, Own.nil _ _ _, .inl rfl, by rw [base_take]; omega, rfl, by rw [List.drop_zero]; simp, hb⟩
      have HP := Lib.hid hP
      clear hO hb hP
      go_wp2_with fail
      go_loopw [3, 5, 6] (fun u3 u5 u6 wr => ∃ (i : Nat) (L P : List Int), i ≤ k ∧ u6 = .int .i64 (i : Int) ∧ PermSt w wr k ds i u3 u5 L P) (fun _ _ u6 _ => k - (intOf u6).toNat)
      case atStart => exact ⟨0, _, _, Nat.zero_le _, rfl, HP.out⟩
      case round =>
        clear HP
        obtain ⟨i, L, P, hi, rfl, hP⟩ := hrel
        by_cases hik : i < k
        · have hid : i < ds.length := by rw [H.out.2]; exact hik
          have hb := hP.below
          obtain ⟨db, dof, rfl, hdl, hdc⟩ := H.out.1.at_ (k := i) (by rw [List.length_map]; exact hid)
          obtain ⟨q, hq⟩ : ∃ q, ds[i]? = some q := ⟨_, List.getElem?_eq_getElem hid⟩
          have hqe : (ds.map Int.ofNat)[i]?.getD 0 = (q : Int) := by rw [List.getElem?_map, hq]; rfl
          rw [hqe] at hdc
          replace hdc := (hb.cell (p := ⟨db, dof + i, none⟩) hdl).trans hdc
          have hdrop : ds.drop i = q :: ds.drop (i + 1) := by
            rw [List.drop_eq_getElem_cons hid]
            congr 1
            rw [List.getElem?_eq_getElem hid] at hq
            exact Option.some.inj hq
          have heq := hP.eq
          rw [hdrop, permL_step] at heq
          obtain ⟨a3, c3, e3, hr3⟩ := hP.left.row (by rw [ints_len, hP.ll]; unfold maxLen; omega)
          rw [ints_len, hP.ll] at e3
          by_cases hqk : k - i ≤ q
          · rw [List.getElem?_eq_none (by rw [hP.ll]; exact hqk)] at heq
            have HE := Lib.hid (And.intro (show permL (base k) ds = none from heq) hb)
            subst e3
            have hqi : ((k - i : Nat) : Int) ≤ (q : Int) := by omega
            clear hb hP heq hdrop hq hqe hr3
            go_wp2_with fail
            go_ret
            exact PermRes.bad HE.out.1 HE.out.2
          · obtain ⟨lv, hlv⟩ : ∃ lv, L[q]? = some lv := ⟨_, List.getElem?_eq_getElem (by rw [hP.ll]; omega)⟩
            rw [hlv] at heq
            simp only at heq
            have hLn : 0 < (ints L).length := by rw [ints_len, hP.ll]; omega
            obtain ⟨g3, cap3, e4, _, hg3, hc3, hc3m⟩ := hP.left.form hLn
            rw [e3, ints_len, hP.ll] at e4
            injection e4 with e41 _ e43
            subst e41; subst e43
            subst e3
            rw [ints_len, hP.ll] at hc3
            have hlc : wr.cell? ⟨g3, q, none⟩ = some (.int .i64 lv) := by
              have h1 := hP.left
              rw [show k - i = (ints L).length by rw [ints_len, hP.ll]] at h1
              rw [h1.cell q (by rw [ints_len, hP.ll]; omega)]
              unfold ints; rw [List.getElem?_map, hlv]; rfl
            obtain ⟨o2, ho2, hsf⟩ := slice_from3 g3 0 (k - i) c3 (q + 1) (by omega) hc3
            have hst := slice_to3 g3 0 (k - i) c3 q (by omega) hc3
            have hnw : ¬ ((k - i : Nat) : Int) ≤ (q : Int) := by omega
            have hPl : (ints P).length < 1099511627776 := by rw [ints_len, hP.pl]; omega
            have hsz := hb.size
            have hq1 : IntKind.i64.wrap ((q : Int) + 1) = (q : Int) + 1 := IntWalk.i64_in _ (by omega)
            have hqq : (q : Int) < ((k - i : Nat) : Int) := by omega
            have HP := Lib.hid (And.intro hP (And.intro heq (And.intro hlv (And.intro hPl (And.intro ho2 (And.intro hst hsf))))))
            have hdl' := Nat.lt_of_lt_of_le hdl hsz
            have Hd := Lib.hid hdc
            clear hP heq hlv hPl ho2 hst hsf hdrop hq hqe hr3 hLn hb
            go_upto_region 13 with (at_builtin; refine app1 rfl (.tmp 30) (.tmp 38) 57 3 rfl i3 (.int .i64 0) 8 Tryd.underlying57 I3.out.1 I3.out.2.1 I3.out.2.2.1 I3.out.2.2.2 rfl (by omega) w.heap.size (.int .i64 lv) u5 (ints P) rfl HP.out.1.out rfl rfl HP.out.2.2.2.1 hsz ?_; intro v8 w8 h2 h3 h4; have H8 := Lib.hid (RowTo.mk h2 h3 h4); clear h2 h3 h4)
            have hdA : ∀ W, w8.grownBy W none → W.cell? ⟨db, dof + i, none⟩ = some (.int .i64 (q : Int)) := fun W hW => by
              have h1 : w8.cell? ⟨db, dof + i, none⟩ = some (.int .i64 (q : Int)) := by
                have hb8 := HP.out.1.below.trans (H8.out.below hsz HP.out.1.out.ge)
                obtain ⟨db', dof', e', _, hc'⟩ := H.out.1.at_ (k := i) (by rw [List.length_map]; exact hid)
                injection e' with e'
                injection e' with e1 e2 _
                subst e1; subst e2
                have h2 := (HP.out.1.below.cell (p := ⟨db, dof + i, none⟩) hdl).trans hc'
                have h3 := h2.symm.trans Hd.out
                have h4 := (hb8.cell (p := ⟨db, dof + i, none⟩) hdl).trans hc'
                rw [h4]; exact h3
              exact (World.cell?_of_block (a := ⟨db, dof + i, none⟩) (hW.block _ (block_lt_of_cell h1) (by simp))).trans h1
            have hl8 : Own w8 w.heap.size (.slice (some ⟨g3, 0, none⟩) (ints L).length c3) 3 (ints L) := by
              have h1 := HP.out.1.left
              rw [show k - i = (ints L).length by rw [ints_len, HP.out.1.ll]] at h1
              refine h1.kept H8.out.gr (.inr ?_)
              rcases HP.out.1.ne with e | e
              · rw [e]; simp [Value.ownBlock]
              · exact e
            have hlA : ∀ W, w8.grownBy W none → ∀ j u, (ints L)[j]? = some u → W.cell? ⟨g3, j, none⟩ = some u := fun W hW j u hu => by
              have h1 : w8.cell? ⟨g3, j, none⟩ = some u := (hl8.cell j (List.getElem?_eq_some_iff.1 hu).1).trans hu
              exact (World.cell?_of_block (a := ⟨g3, j, none⟩) (hW.block _ (block_lt_of_cell h1) (by simp))).trans h1
            have hgs8 : g3 < w8.heap.size := by
              obtain ⟨_, _, _, h1, _⟩ := hl8.at_form (by rw [ints_len, HP.out.1.ll]; omega)
              rename_i h2
              exact (by obtain ⟨g', e', _, h3, _⟩ := hl8.at_form (by rw [ints_len, HP.out.1.ll]; omega); cases e'; exact h3)
            have HA := Lib.hid (And.intro hdA hlA)
            have hO0 : Own (w8.alloc (.cells #[] 3)) w8.heap.size (.slice (some ⟨w8.heap.size, 0, none⟩) 0 0) 3 [] := Own.new 3 [] (Nat.le_refl _) (by simp)
            have HO0 := Lib.hid hO0
            have hL : L.length = k - i := HP.out.1.ll
            have HL := Lib.hid hL
            have hst := HP.out.2.2.2.2.2.1
            have hsf := HP.out.2.2.2.2.2.2
            rw [show ((q + 1 : Nat) : Int) = (q : Int) + 1 by omega] at hsf
            have hd8 := HA.out.1 w8 (World.grownBy.refl w8 _)
            have hdl8 : db < w8.heap.size := block_lt_of_cell hd8
            clear hdA hl8 hlA hO0 hL
            go_region_held3 (fun W => W.cell? ⟨db, dof + i, none⟩ = some (.int .i64 (q : Int)))
              (first
                | assumption
                | exact HA.out.1 _ (grown_drewN w8 1 none)
                | exact HA.out.1 _ (grown_alloc w8 _ none)
                | exact HA.out.1 _ ((grown_alloc w8 _ none).trans (grown_drewN _ 1 none))
                | exact HA.out.1 _ H10.out.2
                | exact HA.out.1 _ H9.out.2
                | go_keep)
              (first
                | (refine step_app3 (by rfl) _ _ (by rfl) w8.heap.size (.slice (some ⟨w8.heap.size, 0, none⟩) 0 0) [] (by rfl) (by exact HO0.out) ⟨g3, 0, none⟩ q c3 (ints (L.take q)) (by rfl) (by rw [ints_len, List.length_take, HL.out]; omega) (fun j u hu => by rw [add_zero_addr, Nat.zero_add]; exact HA.out.2 _ (grown_alloc w8 _ none) j u (ints_take hu)) (fun u hu => by unfold ints at hu; obtain ⟨x, _, rfl⟩ := List.mem_map.1 hu; rfl) (by simp; omega) (by simp) ?_
                   intro v9 w9 hr9
                   have H9 := Lib.hid (And.intro hr9 (show w8.grownBy w9 none from grown_new (grown_alloc w8 (.cells #[] 3) none) ⟨hr9.gr.os, hr9.gr.tape, hr9.gr.output, hr9.gr.size, hr9.gr.block⟩ (fun g hg => by cases hg; exact .inl (Nat.le_refl _))))
                   clear hr9)
                | (refine step_app3 (by rfl) _ _ (by rfl) w8.heap.size v9 ([] ++ ints (L.take q)) (by rfl) H9.out.1.own ⟨g3, o2, none⟩ (k - i - (q + 1)) (c3 - (q + 1)) (ints (L.drop (q + 1))) (by rfl) (by rw [ints_len, List.length_drop, HL.out]) (fun j u hu => by
                     have hjl := (List.getElem?_eq_some_iff.1 hu).1
                     rw [ints_len, List.length_drop, HL.out] at hjl
                     rw [add_zero_addr, HP.out.2.2.2.2.1 (by omega), Nat.zero_add]
                     exact HA.out.2 _ H9.out.2 (q + 1 + j) u (ints_drop hu)) (fun u hu => by unfold ints at hu; obtain ⟨x, _, rfl⟩ := List.mem_map.1 hu; rfl) (by rw [List.nil_append, ints_len, List.length_take]; omega) H9.out.2.size ?_
                   intro v10 w10 hr10
                   have H10 := Lib.hid (And.intro (H9.out.1.trans hr10) (show w8.grownBy w10 none from grown_new H9.out.2 hr10.gr (fun g hg => .inl (H9.out.1.own.ge g hg))))
                   clear hr10))
            all_goals
              go_wp2
              have hb8 := HP.out.1.below.trans (H8.out.below hsz HP.out.1.out.ge)
              have hb10 : Below w.heap.size w w10 := below_grownO' hb8 H10.out.2 (fun q e => by cases e)
              have hL2 : (L.eraseIdx q).length = k - (i + 1) := by rw [List.length_eraseIdx_of_lt (by rw [HL.out]; omega), HL.out]; omega
              refine ⟨⟨i + 1, L.eraseIdx q, P ++ [lv], by omega, by go_num, ⟨?_, ?_, ?_, hL2, by rw [List.length_append, HP.out.1.pl]; rfl, ?_, hb10⟩⟩, by simp [intOf]; omega⟩
              · have h1 := H10.out.1.own
                rw [List.nil_append, show ints (L.take q) ++ ints (L.drop (q + 1)) = ints (L.eraseIdx q) by rw [List.eraseIdx_eq_take_drop_succ]; simp [ints]] at h1
                exact h1.mono hb8.size
              · have h1 := H8.out.own.kept H10.out.2 (by
                  rcases H8.out.own.blk with e | ⟨g', _, e, _⟩
                  · exact .inl e
                  · right; rw [e]; simp)
                rw [show ints P ++ [Value.int .i64 lv] = ints (P ++ [lv]) by simp [ints]] at h1
                exact h1
              · rcases H8.out.own.blk with e | ⟨g', _, e, _, hl, _⟩
                · exact .inl e
                · right
                  intro e2
                  have := H10.out.1.own.ge g' (e2.trans e)
                  omega
              · rw [HP.out.2.1, Option.map_map]
                congr 1
                funext x
                simp
        · obtain rfl : i = k := by omega
          have heq := hP.eq
          rw [List.drop_of_length_le (by rw [H.out.2]; exact Nat.le_refl _)] at heq
          have heq2 : permL (base i) ds = some P := by rw [heq, permL]; simp
          have HP := Lib.hid (And.intro heq2 (And.intro hP.out hP.below))
          clear hP heq heq2
          have hii : ¬ ((i : Int) < (i : Int)) := by omega
          go_wp2_with fail
          go_ret
          exact PermRes.good HP.out.1 HP.out.2.1 HP.out.2.2
end Go.Proofs.YtjjjnpolhbbepaaDoor
