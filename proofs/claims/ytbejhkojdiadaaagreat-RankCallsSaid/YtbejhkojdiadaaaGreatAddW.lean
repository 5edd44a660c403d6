/- The tower's add and close, against one another. -/
import Derived.Test.YtbejhkojdiadaaaGreatSiftW
import Derived.Deep.AppendLies
import Derived.Deep.RegionHeld3
set_option linter.unusedSimpArgs false
set_option linter.unusedVariables false
namespace Go.Proofs.YtbejhkojdiadaaaGreat
open Go.RowKit PlainPm
theorem Own.below {w w' : World} {B : Nat} {v : Value} {e : TypeId} {xs : List Value} (h : Own w B v e xs) (hb : Below w.heap.size w w') : Own w' B v e xs := ownsRow_block h fun g hg => hb.block g (h.block_lt hg).1
theorem step_app1 {w : World} {ops : Array Oper} {o : Oper} {a : Act} {K : Act → World → Prop} {Q : Exit → Act → World → Prop} {E : Prop} (hgd : o.guard = none) (s x : Operand) (T e : TypeId)
    (ho : o.op = .call { callee := .builtin .append, args := #[s, x], argTypes := #[T, T] })
    (i : TypeInfo) (z : Value) (bytes : Nat) (ht : Tryz.prog.underlying T = some (.slice e)) (hi : Tryz.prog.info? e = some i) (hz : i.zero = some z) (hs1 : i.size = 1) (hby : i.bytes = bytes) (hzs : z.cells.size = 1) (hb64 : bytes ≤ 64)
    (B : Nat) (u v : Value) (xs : List Value) (hs : a.eval s = v) (Wb : World) (h : Own Wb B v e xs) (hb : Below Wb.heap.size Wb w) (hx : ∃ ad, a.eval x = .slice (some ad) 1 1 ∧ w.cell? ad = some u) (h1 : u.oneCell' = true) (hl : xs.length < 1000000) (hB : B ≤ Wb.heap.size)
    (hK : ∀ v' w', Own w' B v' e (xs ++ [u]) → Wb.grownBy w' v.ownBlock → w.grownBy w' v.ownBlock → (v'.ownBlock = v.ownBlock ∨ ∃ g, v'.ownBlock = some g ∧ Wb.heap.size ≤ g) → K (a.put o.dst v') w') :
    if Region.wanted o (yielded ops a.tmps) = true then Oper.wp Tryz.prog o a w K Q else E := by
  have hw : Region.wanted o (yielded ops a.tmps) = true := by simp [Region.wanted, hgd]
  rw [if_pos hw]
  obtain ⟨ad, hx, hn⟩ := hx
  have hown : w.ownsRow B e 1 v xs.length xs := h.below hb
  obtain ⟨v', w', hr, h2, h3, _, h5⟩ := run_append_own_at (P := Tryz.prog) w B T o.type e i z 1 bytes ht hi hz hs1 hby hzs (by omega) v xs.length xs hown ad 1 1 [u] rfl (by
    intro j y hj
    match j, hj with
    | 0, hj => simp at hj; subst hj; simpa [Addr.add] using hn) (by intro y hy; rw [List.mem_singleton.1 hy]; exact h1) (by unfold maxLen; omega) (Nat.le_trans (Nat.mul_le_mul_left _ hb64) (by omega)) (Nat.le_trans hB hb.size)
  unfold Oper.wp execOp
  simp only [ho, resolve, invoke, builtin, Sem.run_bind, Sem.run_pure, Result.andThen_ok, List.map_toArray, List.map_cons, List.map_nil, hs, hx, hr]
  refine hK v' w' (by unfold Own; rw [List.length_append]; exact h2) ((grown_below hb _).trans h3) h3 ?_
  rcases h5 with h5 | h5
  · exact .inl h5
  · exact .inr ⟨_, h5, hb.size⟩
theorem below_drw {B : Nat} {a w : World} (h : Below B a w) : Below B a w.drew := ⟨h.os, h.tape, h.output, h.size, h.block⟩
theorem alloc_b {B : Nat} {a w : World} (h : Below B a w) (o : Obj) (hB : B ≤ a.heap.size := by first | exact Nat.le_refl _ | assumption | omega) : Below B a (w.alloc o) := h.alloc (Nat.le_trans hB h.size) o
theorem Tryz.info27 : (Tryz.prog.info? 27).map (fun i => (i.zero, i.size, i.bytes)) = some (some (.slice none 0 0), 1, 24) := by kernel_rfl
/-- What add and close are to do. -/
def AddC (n B t G i : Nat) : Prop := ∀ (w : World) (M : List Nat) (T : Tw n) (F : Nat → Value) (x : Pm n) (vx : Value), TowW n B t G w M T F → AddPre T x i → (∀ j, (T j).gens.length ≤ many T + i) → PmV w M vx x →
  Calls Tryz.prog 144 #[.pointer (some ⟨t, 0, none⟩), vx, .int .i64 (i : Int)] w fun e w' => e = .returned (.tuple #[]) ∧ ∃ M' T' F', TowW n B t G w' M' T' F' ∧ AddPost T x i T' ∧ Stp w M w' M'
def CloseC (n B t G k : Nat) : Prop := ∀ (w : World) (M : List Nat) (T : Tw n) (F : Nat → Value), TowW n B t G w M T F → ClosePre T k → (∀ j, (T j).gens.length ≤ many T + (k + 1)) →
  Calls Tryz.prog 158 #[.pointer (some ⟨t, 0, none⟩), .int .i64 (k : Int)] w fun e w' => e = .returned (.tuple #[]) ∧ ∃ M' T' F', TowW n B t G w' M' T' F' ∧ CloseR T k T' ∧ DoneL T' k ∧ Stp w M w' M'
/-- The residue at the levels from i on, below k. -/
def addUp {n : Nat} (T : Tw n) (i k : Nat) (r : Pm n) : Tw n := fun j => if i ≤ j ∧ j < k then addGen (T j) r else T j
theorem addUp_start {n : Nat} (T : Tw n) (i : Nat) (r : Pm n) : addUp T i i r = T := funext fun j => if_neg (by omega)
theorem addUp_end {n : Nat} (T : Tw n) (i a : Nat) (r : Pm n) : addUp T i (a + 1) r = addTo T i a r := funext fun j => by
  unfold addUp addTo
  by_cases h : i ≤ j ∧ j ≤ a
  · rw [if_pos h, if_pos (by omega)]
  · rw [if_neg h, if_neg (by omega)]
theorem addUp_at {n : Nat} (T : Tw n) (i k : Nat) (r : Pm n) : addUp T i k r k = T k := if_neg (by omega)
theorem addUp_step {n : Nat} (T : Tw n) {i k : Nat} (r : Pm n) (h : i ≤ k) : updL (addUp T i k r) k (addGen (T k) r) = addUp T i (k + 1) r := funext fun j => by
  by_cases e : j = k
  · subst e; rw [updL_at]; exact (if_pos ⟨h, by omega⟩).symm
  · rw [updL_ne _ _ e]
    unfold addUp
    by_cases h2 : i ≤ j ∧ j < k
    · rw [if_pos h2, if_pos (by omega)]
    · rw [if_neg h2, if_neg (by omega)]
theorem PmV.form {n : Nat} {w : World} {M : List Nat} {v : Value} {x : Pm n} (h : PmV w M v x) : ∃ b o c, v = .slice (some ⟨b, o, none⟩) n c := by
  obtain ⟨b, o, c, rfl, _⟩ := h; exact ⟨b, o, c, rfl⟩
theorem fld_addGen {n : Nat} {l : Lv n} {r : Pm n} {c : Nat} (hc : c ≠ 0) : fld (addGen l r) c = fld l c := by
  unfold fld addGen
  rw [if_neg hc, if_neg hc]
theorem TowW.gB {n B t G : Nat} {w : World} {M : List Nat} {T : Tw n} {F : Nat → Value} (h : TowW n B t G w M T F) : B ≤ w.heap.size := by
  have h1 := (h.mb G h.gm); omega
/-- A generator is put to a level. -/
theorem TowW.appG {n B t G i g cap : Nat} {w w6 : World} {M : List Nat} {T : Tw n} {F : Nat → Value} {r : Pm n} {vr : Value} {gs : List Value} (h : TowW n B t G w M T F) (hi : i < n) (hr : PmV w M vr r) (hgs : PmL w M gs (T i).gens)
    (hg : w.grownBy w6 (F (194 * i)).ownBlock) (hnew : (Value.slice (some ⟨g, 0, none⟩) (gs.length + 1) cap).ownBlock = (F (194 * i)).ownBlock ∨ ∃ b, (Value.slice (some ⟨g, 0, none⟩) (gs.length + 1) cap).ownBlock = some b ∧ w.heap.size ≤ b)
    (hown : Own w6 B (.slice (some ⟨g, 0, none⟩) (gs.length + 1) cap) 27 (gs ++ [vr])) :
    TowW n B t G (w6.setCell ⟨G, i * 194, none⟩ (.slice (some ⟨g, 0, none⟩) (gs.length + 1) cap)) (g :: M) (updL T i (addGen (T i) r)) (fun k => if k = 194 * i + 0 then .slice (some ⟨g, 0, none⟩) (gs.length + 1) cap else F k) ∧
    Stp w M (w6.setCell ⟨G, i * 194, none⟩ (.slice (some ⟨g, 0, none⟩) (gs.length + 1) cap)) (g :: M) := by
  have := h.app (i := i) (c0 := 0) (g := g) (cap := cap) (m := gs.length + 1) (l := addGen (T i) r) (w6 := w6) h.gB hi (by omega) (fun c _ hc => fld_addGen hc) hg (by
    rcases hnew with e | ⟨b, e, e2⟩
    · exact .inl e.symm
    · cases e; exact .inr e2) (hown.block_lt rfl).1 (fun w7 M7 k hb => by
      unfold CellOk fld addGen
      exact ⟨_, ownsRow_block hown (fun b e => by cases e; exact hb), (hgs.snoc hr).stp k⟩)
  rw [show 194 * i + 0 = i * 194 by omega] at this
  rw [show 194 * i + 0 = i * 194 by omega]
  exact this
theorem many_le {n : Nat} {T : Tw n} (h : Wf T) : many T ≤ n * n := by
  have key : ∀ m, m ≤ n → ((List.range m).map fun j => (T j).orb.length).sum ≤ m * n := by
    intro m
    induction m with
    | zero => intro _; simp
    | succ m ih =>
      intro hm
      have w := h m (by omega)
      have := ih (by omega)
      have hl : (T m).orb.length ≤ n := by
        have := sub_len (l := (T m).orb) (m := List.range n) w.nd (fun p hp => by
          obtain ⟨z, hz⟩ := Option.isSome_iff_exists.1 ((w.orb p).1 hp)
          exact List.mem_range.2 (w.img p z hz).1)
        simpa using this
      rw [List.range_succ, List.map_append, List.sum_append, Nat.add_mul]
      simp; omega
  exact key n (Nat.le_refl _)
theorem addR_short {n : Nat} {T T' : Tw n} {x r : Pm n} {i a k : Nat} (h : AddR T x i a r (k + 1) T') (hlen : ∀ j, (T j).gens.length ≤ many T + i) (hik : i ≤ k) (hka : k ≤ a) : ∀ j, (T' j).gens.length ≤ many T' + (k + 1) := fun j => by
  by_cases e : k + 1 ≤ a
  · have h1 := h.pot e j
    have h2 := hlen j
    omega
  · have h1 := h.first (by omega)
    have h2 := hlen j
    rw [h1, addTo_many]
    unfold addTo
    split
    · simp [addGen]; omega
    · omega
theorem keepT1 {wr a b : World} {t G o : Nat} {v u : Value} {row : Option Nat} (h : a.cell? ⟨t, 1, none⟩ = some v ∧ a.cell? ⟨G, o, none⟩ = some u ∧ wr.grownBy a row) (k : a.grownBy b row) (hr : row ≠ some t) (hG : row ≠ some G) : b.cell? ⟨t, 1, none⟩ = some v ∧ b.cell? ⟨G, o, none⟩ = some u ∧ wr.grownBy b row :=
  ⟨k.cell h.1 (fun e => hr e.symm), k.cell h.2.1 (fun e => hG e.symm), h.2.2.trans k⟩
set_option maxRecDepth 100000 in
set_option maxHeartbeats 4000000 in
theorem add_of_close {n B t G i : Nat} (hi : i < n) (hC : ∀ k, i ≤ k → k < n → CloseC n B t G k) : AddC n B t G i := by
  intro w M T F x vx hT hA hlen hx
  obtain ⟨i27, hi27, hz27, hs27, hb27⟩ := info_parts Tryz.info27
  have I := Lib.hid (And.intro hi27 (And.intro hz27 (And.intro hs27 hb27)))
  clear hi27 hz27 hs27 hb27
  have hn := hT.hn.2
  have HS := Lib.hid (sift_calls hT hx (Nat.le_of_lt hi))
  obtain ⟨a, ha⟩ : ∃ a, (sft T (n - i) i x).1 = a := ⟨_, rfl⟩
  obtain ⟨r, hr⟩ : ∃ r, (sft T (n - i) i x).2 = r := ⟨_, rfl⟩
  rw [ha, hr] at HS
  have hs : sft T (n - i) i x = (a, r) := by rw [← ha, ← hr]
  obtain ⟨s1, s2, _⟩ := sft_spec (f := n - i) hA.inv.wf (by omega) hA.fx
  rw [hs] at s1 s2
  dsimp only at s1 s2
  have H := Lib.hid (And.intro hT (And.intro hA (And.intro hlen (And.intro hx hs))))
  clear hT hA hlen hx hs ha hr
  by_cases han : a = n
  · have hA := Lib.hid han
    have hd : ((a : Int) == (n : Int)) = true := by simp [han]
    clear han
    go_enter Tryz.func144, Tryz.ntmps144
    go_wp2_with (go_at_call 157; refine HS.out.mono ?_; rintro e w1 ⟨v1, rfl, k1, k2⟩; have H1 := Lib.hid (And.intro k1 k2); have c0 := (H.out.1.below k2).tb; clear k1 k2)
    refine bodyPost_ret (results_none rfl _ _ _) rfl ?_
    refine ⟨rfl, M, T, F, H.out.1.below H1.out.2, ?_, Stp.below H1.out.2⟩
    exact AddPost.none H.out.2.1 (Nat.le_of_lt hi) (by rw [H.out.2.2.2.2, hA.out])
  · have hd : ((a : Int) == (n : Int)) = false := by simp; omega
    go_enter Tryz.func144, Tryz.ntmps144
    go_wp2_with (go_at_call 157; refine HS.out.mono ?_; rintro e w1 ⟨v1, rfl, k1, k2⟩; obtain ⟨rb, ro, rc, rfl⟩ := k1.form; have H1 := Lib.hid (And.intro k1 k2); have c0 := (H.out.1.below k2).tb; clear k1 k2)
    have hT1 := H.out.1.below H1.out.2
    have HT1 := Lib.hid hT1
    clear hT1
    go_loopw [8] (fun i' wr => ∃ (k : Nat) (M' : List Nat) (F' : Nat → Value), i ≤ k ∧ k ≤ a + 1 ∧ i' = .int .i64 (k : Int) ∧ TowW n B t G wr M' (addUp T i k r) F' ∧ Stp w1 M wr M') (fun i' _ => a + 1 - (intOf i').toNat)
    case atStart => exact ⟨i, M, F, Nat.le_refl _, by omega, rfl, by rw [addUp_start]; exact HT1.out, Stp.refl _ _⟩
    case round =>
      obtain ⟨k, M', F', hik, hka, rfl, hT', hS⟩ := hrel
      by_cases hk : k ≤ a
      · have hkn : k < n := by omega
        have t1 := hT'.tl
        have g0 := hT'.cell (c := 0) hkn (by omega)
        have hvr := H1.out.1.stp hS
        obtain ⟨gs, hgs, hpl⟩ := hT'.gens_ hkn
        have f0 := hT'.row.frozen (k * 194)
        rw [show 194 * k + 0 = k * 194 by omega] at g0
        obtain ⟨gv, hgv⟩ : ∃ gv, F' (194 * k) = gv := ⟨_, rfl⟩
        rw [show k * 194 = 194 * k by omega, hgv] at g0
        rw [show 194 * k = k * 194 by omega] at g0
        rw [hgv] at hgs
        have hgl : gs.length < 1000000 := by
          have h1 := hpl.1
          rw [addUp_at] at h1
          have h2 := H.out.2.2.1 k
          have h3 := many_le H.out.2.1.inv.wf
          have h4 : n * n ≤ 64 * 64 := Nat.mul_le_mul hn hn
          omega
        have hGt : G ≠ t := fun e => hT'.tm.1 (e ▸ hT'.gm)
        have hGw := hT'.row.lt
        have hB := hT'.gB
        have HP := Lib.hid (And.intro hT' (And.intro hS (And.intro hvr (And.intro hgs (And.intro hpl hgv)))))
        clear hT' hS hvr hgs hpl hgv c0
        have hk1 : (k : Int) < n := by omega
        have hrt : gv.ownBlock ≠ some t := fun e => HP.out.1.tm.1 (HP.out.1.blk k 0 hkn (by omega) t (by rw [Nat.add_zero, HP.out.2.2.2.2.2]; exact e)).1
        have hrG : gv.ownBlock ≠ some G := fun e => (HP.out.1.blk k 0 hkn (by omega) G (by rw [Nat.add_zero, HP.out.2.2.2.2.2]; exact e)).2 rfl
        obtain ⟨row, hrow⟩ : ∃ row, gv.ownBlock = row := ⟨_, rfl⟩
        have Hrow := Lib.hid hrow
        rw [hrow] at hrt hrG
        clear hrow
        go_upto_region 5 with (fail)
        have lt1 : t < wr.heap.size := HP.out.1.tm.2
        have nt1 : t ≠ wr.heap.size := by omega
        have nG1 : G ≠ wr.heap.size := by omega
        go_region_law
          (first
            | (refine step_app1 ?_ (.tmp 41) (.tmp 43) 44 27 ?_ i27 (.slice none 0 0) 24 Tryz.underlying44 I.out.1 I.out.2.1 I.out.2.2.1 I.out.2.2.2 ?_ ?_ B (.slice (some ⟨rb, ro, none⟩) n rc) gv gs ?_ wr HP.out.2.2.2.1 ?_ ?_ ?_ hgl hB ?_
               rfl
               rfl
               rfl
               omega
               rfl
               (repeat (first | exact Below.refl _ _ | exact below_self_drewN _ _ | refine alloc_b ?_ _ | refine below_drw ?_ | refine below_drewN ?_ _))
               exact ⟨_, rfl, by simp⟩
               rfl
               intro v8 w8 k1 k2 k3 k4
               obtain ⟨G8, cap8, rfl, -⟩ := k1.form (by simp)
               simp only [List.length_append, List.length_singleton] at k1 k4
               rw [Hrow.out] at k3
               have f8 : w8.frozen? ⟨G, k * 194, none⟩ = false := (World.frozen?_of_block (w := wr) (a := ⟨G, k * 194, none⟩) (k2.block G hGw (fun e => hrG (by rw [← Hrow.out]; exact e.symm)))).trans f0
               have t8 : w8.cell? ⟨t, 1, none⟩ = some (.slice (some ⟨G, 0, none⟩) n n) := (World.cell?_of_block (w := wr) (a := ⟨t, 1, none⟩) (k2.block t lt1 (fun e => hrt (by rw [← Hrow.out]; exact e.symm)))).trans t1
               have c8 : w8.cell? ⟨G, k * 194, none⟩ = some gv := (World.cell?_of_block (w := wr) (a := ⟨G, k * 194, none⟩) (k2.block G hGw (fun e => hrG (by rw [← Hrow.out]; exact e.symm)))).trans g0
               have H8 := Lib.hid (And.intro k1 (And.intro k2 k4))
               clear k1 k2 k4))
        all_goals
          go_wp2
          have hT1 : PmL wr M' gs (addUp T i k r k).gens := HP.out.2.2.2.2.1
          have hq := HP.out.1.appG hkn HP.out.2.2.1 hT1 (by rw [HP.out.2.2.2.2.2]; exact H8.out.2.1) (by rw [HP.out.2.2.2.2.2]; exact H8.out.2.2) H8.out.1
          rw [addUp_at, addUp_step T r hik] at hq
          exact ⟨⟨k + 1, _, _, by omega, by omega, by go_num, hq.1, HP.out.2.1.trans hq.2⟩, by simp [intOf]; omega⟩
      · have hka1 : k = a + 1 := by omega
        have hnk : decide ((k : Int) ≤ (a : Int)) = false := by simp; omega
        rw [hka1, addUp_end] at hT'
        have HP := Lib.hid (And.intro hT' hS)
        clear hT' hS hik hka hka1 hk
        generalize hkk : (k : Int) = kk at *
        clear hkk k
        go_wp2_with fail
        go_loopw [9] (fun i' wi => ∃ (k : Nat) (M' : List Nat) (T' : Tw n) (F' : Nat → Value), i ≤ k ∧ k ≤ a + 1 ∧ i' = .int .i64 ((k : Int) - 1) ∧ TowW n B t G wi M' T' F' ∧ AddR T x i a r k T' ∧ Stp w1 M wi M') (fun i' _ => (intOf i' + 1).toNat)
        case atStart => exact ⟨a + 1, M', _, F', by omega, by omega, by go_num, HP.out.1, AddR.start H.out.2.1 (Nat.le_of_lt hi) H.out.2.2.2.2 (by omega), HP.out.2⟩
        case round =>
          obtain ⟨k, M2, T2, F2, hik2, hka2, rfl, hT2, hA2, hS2⟩ := hrel
          by_cases hk : i < k
          · obtain ⟨k, rfl⟩ : ∃ k', k = k' + 1 := ⟨k - 1, by omega⟩
            have hcl := hC k (by omega) (by omega) wr M2 T2 F2 hT2 (hA2.pre (by omega)) (addR_short hA2 H.out.2.2.1 (by omega) (by omega))
            have hz : ((k + 1 : Nat) : Int) - 1 = (k : Int) := by omega
            have HP2 := Lib.hid (And.intro hA2 (And.intro hS2 hcl))
            clear hT2 hA2 hS2 hcl
            have hge : (i : Int) ≤ (k : Int) := by omega
            rw [hz]
            go_wp2_with (go_at_call 158; refine HP2.out.2.2.mono ?_; rintro e w4 ⟨rfl, M3, T3, F3, k1, k2, k3, k4⟩; have H4 := Lib.hid (And.intro k1 (And.intro k2 (And.intro k3 k4))); clear k1 k2 k3 k4)
            refine ⟨⟨k, M3, T3, F3, by omega, by omega, by go_num, H4.out.1, HP2.out.1.step H.out.2.1 (Nat.le_of_lt hi) H.out.2.2.2.2 (by omega) (by omega) (by omega) H4.out.2.1 H4.out.2.2.1, HP2.out.2.1.trans H4.out.2.2.2⟩, by simp [intOf]⟩
          · obtain rfl : k = i := by omega
            have HP2 := Lib.hid (And.intro hT2 (And.intro hA2 hS2))
            clear hT2 hA2 hS2
            have hge : ¬ ((k : Int) ≤ (k : Int) - 1) := by omega
            go_wp2_with fail
            first | go_end0 | refine bodyPost_ret (results_none rfl _ _ _) rfl ?_
            exact ⟨rfl, M2, T2, ⟨F2, HP2.out.1⟩, HP2.out.2.1.finish H.out.2.1 (Nat.le_of_lt hi) H.out.2.2.2.2 (by omega), (Stp.below H1.out.2).trans HP2.out.2.2⟩
end Go.Proofs.YtbejhkojdiadaaaGreat
