/- extend's inner function: backtracking. -/
import Derived.Test.YtjjjohmppehejaaGreatCMat
import Derived.Deep.DeepCutAuto
import Derived.WalkMore
import Derived.Deep.RegionHeld3
set_option linter.unusedSimpArgs false
set_option linter.unusedVariables false
namespace Go.Proofs.YtjjjohmppehejaaGreat
open Go.RowKit Plain PlainG PlainX
theorem step_appC {w : World} {ops : Array Oper} {o : Oper} {a : Act} {K : Act → World → Prop} {Q : Exit → Act → World → Prop} {E : Prop} (hgd : o.guard = none) (s x : Operand) (T : TypeId)
    (ho : o.op = .call { callee := .builtin .append, args := #[s, x], argTypes := #[T, T] })
    (i : TypeInfo) (hT : Tryz.prog.underlying T = some (.slice 3)) (hi : Tryz.prog.info? 3 = some i) (hz : i.zero = some (.int .i64 0)) (hs1 : i.size = 1) (hby : i.bytes = 8)
    (B : Nat) (u : Int) (v : Value) (xs : List Int) (hs : a.eval s = v) (row : Option Nat) (Wb : World) (h : OwnC Wb B v xs row) (hb : Below Wb.heap.size Wb w) (hx : ∃ ad, a.eval x = .slice (some ad) 1 1 ∧ w.cell? ad = some (.int .i64 u)) (hl : xs.length < 1000000) (hB : B ≤ Wb.heap.size)
    (hK : ∀ v' w' row', (∃ wx, Below Wb.heap.size Wb wx ∧ AppC wx w' B v v' xs u row row') → w.grownBy w' row → K (a.put o.dst v') w') :
    if Region.wanted o (yielded ops a.tmps) = true then Oper.wp Tryz.prog o a w K Q else E := by
  have hw : Region.wanted o (yielded ops a.tmps) = true := by simp [Region.wanted, hgd]
  rw [if_pos hw]
  obtain ⟨ad, hx, hn⟩ := hx
  obtain ⟨v', w', row', hr, h2⟩ := run_appC (P := Tryz.prog) T o.type i hT hi hz hs1 hby (h.below hb) ad u hn hl (Nat.le_trans hB hb.size)
  unfold Oper.wp execOp
  simp only [ho, resolve, invoke, builtin, Sem.run_bind, Sem.run_pure, Result.andThen_ok, List.map_toArray, List.map_cons, List.map_nil, hs, hx, hr]
  exact hK v' w' row' ⟨w, hb, h2⟩ h2.2.1
def nts (p : List Nat) : List Int := p.map fun i => ((i : Nat) : Int)
theorem nts_len (p : List Nat) : (nts p).length = p.length := by simp [nts]
theorem nts_app (p : List Nat) (v : Nat) : nts (p ++ [v]) = nts p ++ [(v : Int)] := by simp [nts]
theorem nts_mem {p : List Nat} {v : Nat} : (v : Int) ∈ nts p ↔ v ∈ p := by simp [nts]; exact ⟨fun ⟨a, h, e⟩ => by rw [← show a = v by omega]; exact h, fun h => ⟨v, h, rfl⟩⟩
theorem nts_get {p : List Nat} {k : Nat} (h : k < p.length) : (nts p)[k]?.getD 0 = ((p[k]?.getD 0 : Nat) : Int) := by simp [nts, h]
/-- What the inner function has caught. -/
structure XEnv (W : World) (X Y A B T n : Nat) (eg eh : List E2) (cg ch : List Int) : Prop where
  xn : W.cell? ⟨X, 0, none⟩ = some (.int .i64 (n : Int))
  xc : ∃ b d, W.cell? ⟨X, 2, none⟩ = some (.slice b n d) ∧ Ints W b cg
  yn : W.cell? ⟨Y, 0, none⟩ = some (.int .i64 (n : Int))
  yc : ∃ b d, W.cell? ⟨Y, 2, none⟩ = some (.slice b n d) ∧ Ints W b ch
  a : ∃ G, W.cell? ⟨A, 0, none⟩ = some (.slice (some ⟨G, 0, none⟩) n n) ∧ Rows W (some ⟨G, 0, none⟩) (matF n (adjF eg))
  b : ∃ G, W.cell? ⟨B, 0, none⟩ = some (.slice (some ⟨G, 0, none⟩) n n) ∧ Rows W (some ⟨G, 0, none⟩) (matF n (adjF eh))
  t : W.cell? ⟨T, 0, none⟩ = some (.func (.func 53) #[] #[.pointer (some ⟨X, 0, none⟩), .pointer (some ⟨Y, 0, none⟩), .pointer (some ⟨A, 0, none⟩), .pointer (some ⟨B, 0, none⟩), .pointer (some ⟨T, 0, none⟩)])
  lg : cg.length = n
  lh : ch.length = n
theorem XEnv.below {W W' : World} {X Y A B T n : Nat} {eg eh : List E2} {cg ch : List Int} (h : XEnv W X Y A B T n eg eh cg ch) (k : Below W.heap.size W W') : XEnv W' X Y A B T n eg eh cg ch := by
  obtain ⟨h1, ⟨b1, d1, h2, h2'⟩, h3, ⟨b2, d2, h4, h4'⟩, ⟨G1, h5, h5'⟩, ⟨G2, h6, h6'⟩, h7, h8, h9⟩ := h
  have kk : ∀ {p : Addr} {v : Value}, W.cell? p = some v → W'.cell? p = some v := fun e => (k.cell (block_lt_of_cell e)).trans e
  exact ⟨kk h1, ⟨b1, d1, kk h2, h2'.below k⟩, kk h3, ⟨b2, d2, kk h4, h4'.below k⟩, ⟨G1, kk h5, h5'.below k⟩, ⟨G2, kk h6, h6'.below k⟩, kk h7, h8, h9⟩
theorem try_l1 {p : List Nat} {f n k : Nat} (h : p.length + (f + 1) = n) : (p ++ [k]).length + f = n := by simp; omega
theorem try_l2 {p : List Nat} {n k : Nat} (h : ∀ x ∈ p, x < n) (hk : k < n) : ∀ x ∈ p ++ [k], x < n := fun x hx => by
  rcases List.mem_append.1 hx with h1 | h1
  · exact h x h1
  · rw [List.mem_singleton.1 h1]; exact hk
theorem try_l3 {w : World} {B : Nat} {v : Value} {p : List Nat} {k : Nat} {row : Option Nat} (h : OwnC w B v (nts p ++ [(k : Int)]) row) : OwnC w B v (nts (p ++ [k])) row := by rw [nts_app]; exact h
theorem alloc_b {a w : World} (h : Below a.heap.size a w) (o : Obj) : Below a.heap.size a (w.alloc o) := h.alloc h.size o
theorem app_at {W0 W2 wx w6 : World} {v v' : Value} {xs : List Int} {u : Int} {row row' : Option Nat} (hA : AppC wx w6 W0.heap.size v v' xs u row row') (hv : OwnC W2 W0.heap.size v xs row) (hb : Below W0.heap.size W0 W2) (hx : Below W2.heap.size W2 wx) : Below W0.heap.size W0 w6 :=
  (hb.trans (hx.mono hb.size)).grown hA.2.1 (Nat.le_trans hb.size hx.size) (fun g hg => by
    rcases hv.blk with e | ⟨g', e, h1, _⟩
    · rw [e] at hg; cases hg
    · rw [e] at hg; cases hg; exact h1)
theorem try_back {w W2 wx w6 w7 : World} {D : Nat} {v v' : Value} {xs : List Int} {u : Int} {row row' : Option Nat} (hg : w.grownBy W2 row) (hx : Below W2.heap.size W2 wx) (hA : AppC wx w6 D v v' xs u row row') (h8 : OwnC w7 D v' (xs ++ [u]) row') (h9 : w6.grownBy w7 row') :
    OwnC w7 D v xs row ∧ w.grownBy w7 row ∧ w.heap.size ≤ w6.heap.size := by
  have h1 := (hg.trans (grown_below hx _)).trans hA.2.1
  refine ⟨hA.2.2.2 w7 h9 h8, grown_new h1 h9 (fun g hg2 => ?_), h1.size⟩
  rcases hA.2.2.1 with e | ⟨G, e, hG⟩
  · right; rw [← e]; exact hg2
  · left
    rw [e] at hg2; cases hg2
    exact Nat.le_trans (hg.trans (grown_below hx _)).size hG
theorem adjF_ne {f g : List E2} {i k x y : Nat} : (adjF f i k != adjF g x y) = !(adj f i k == adj g x y) := by
  unfold adjF
  cases adj f i k <;> cases adj g x y <;> rfl
theorem rows_entry {W : World} {G n : Nat} {f : Nat → Nat → Int} (h : Rows W (some ⟨G, 0, none⟩) (matF n f)) {i j : Nat} (hi : i < n) (hj : j < n) :
    ∃ r o d, W.cell? ⟨G, i, none⟩ = some (.slice (some ⟨r, o, none⟩) n d) ∧ W.cell? ⟨r, o + j, none⟩ = some (.int .i64 (f i j)) := by
  obtain ⟨g, o, b, c, e, _, h1, h2⟩ := h.at_ (k := i) (by simp [matF]; exact hi)
  cases e
  rw [matF_row hi] at h1 h2
  obtain ⟨r, o2, rfl, _, h3⟩ := h2.at_ (k := j) (by simp; exact hj)
  refine ⟨r, o2, c, by simpa using h1, ?_⟩
  rw [h3]; simp [hj]
theorem keepT {W0 W W' : World} {T : Nat} {u : Value} {row : Option Nat} (h : W.cell? ⟨T, 0, none⟩ = some u ∧ W0.grownBy W row) (k : W.grownBy W' row) (hne : row ≠ some T) : W'.cell? ⟨T, 0, none⟩ = some u ∧ W0.grownBy W' row :=
  ⟨k.cell h.1 (Ne.symm hne), h.2.trans k⟩
/-- What trying answers. -/
def TryRes (w : World) (o : Option (List Nat)) (e : Ending) (w' : World) : Prop :=
  match o with
  | some q => ∃ r, e = .returned (.tuple #[r, .bool true]) ∧ Own w' w.heap.size r 3 (ints (nts q))
  | none => e = .returned (.tuple #[.slice none 0 0, .bool false])
set_option maxRecDepth 100000 in
set_option maxHeartbeats 4000000 in
theorem try_calls {W0 : World} {X Y A B T n : Nat} {eg eh : List E2} {cg ch : List Int} (hE : XEnv W0 X Y A B T n eg eh cg ch) (hn : n ≤ 100) : ∀ (f : Nat) (p : List Nat) (v : Value) (row : Option Nat) (w : World),
    p.length + f = n → (∀ x ∈ p, x < n) → Below W0.heap.size W0 w → OwnC w W0.heap.size v (nts p) row →
    Calls Tryz.prog 53 #[v, .pointer (some ⟨X, 0, none⟩), .pointer (some ⟨Y, 0, none⟩), .pointer (some ⟨A, 0, none⟩), .pointer (some ⟨B, 0, none⟩), .pointer (some ⟨T, 0, none⟩)] w fun e w' =>
      TryRes w (tryF (adj eg) (adj eh) cg ch n f p) e w' ∧ OwnC w' W0.heap.size v (nts p) row ∧ w.grownBy w' row := by
  intro f
  induction f with
  | zero =>
    intro p v row w hp hlt hb hv
    obtain ⟨a, c, rfl⟩ := hv.form
    rw [nts_len] at hv ⊢
    have hpn : p.length = n := by omega
    rw [hpn] at hv ⊢
    have hx := (hE.below hb).xn
    have hcl := cloneP_calls a c (nts p) w (hv.ints (by rw [nts_len]; omega)) (by rw [nts_len]; omega)
    rw [nts_len, hpn] at hcl
    have H := Lib.hid (And.intro hcl hv)
    clear hcl hv hE hb hlt hp hpn
    go_enter Tryz.func53, Tryz.ntmps53
    go_wp2
    go_step3
    go_wp2_with (go_at_call 54; refine H.out.1.mono ?_; rintro e w1 ⟨r, rfl, h1, h2⟩; have H1 := Lib.hid (And.intro h1 h2); clear h1 h2)
    rw [Exit.noGoto_ret]
    go_ret2
    refine ⟨⟨r, rfl, H1.out.1⟩, H.out.2.below H1.out.2, grown_below H1.out.2 _⟩
  | succ f ih =>
    intro p v row w hp hlt hb hv
    obtain ⟨pa, pc, rfl⟩ := hv.form
    rw [nts_len] at hv ⊢
    obtain ⟨i, hi⟩ : ∃ i, p.length = i := ⟨_, rfl⟩
    rw [hi] at hv ⊢
    have hin : i < n := by omega
    have hin' : ((i : Int) == (n : Int)) = false := by simp; omega
    have hx := (hE.below hb).xn
    have hy := (hE.below hb).yn
    have H := Lib.hid (And.intro hE (And.intro hb (And.intro hv (And.intro hlt (And.intro hi hp)))))
    have IH := Lib.hid ih
    clear ih hE hb hv hlt hi hp
    go_enter Tryz.func53, Tryz.ntmps53
    go_wp2
    go_step3
    go_wp2
    go_step3
    go_wp2
    obtain ⟨FF, hFF⟩ : ∃ FF : Nat → Option (List Nat), FF = fun x => if okS (adj eg) (adj eh) cg ch p x = true then tryF (adj eg) (adj eh) cg ch n f (p ++ [x]) else none := ⟨_, rfl⟩
    have HF := Lib.hid (show tryF (adj eg) (adj eh) cg ch n (f + 1) p = (List.range' 0 n).findSome? FF by rw [hFF, ← List.range_eq_range']; rfl)
    have HFF := Lib.hid hFF
    clear hFF
    go_loopw [25] (fun kk wr => ∃ k : Nat, k ≤ n ∧ kk = .int .i64 (k : Int) ∧ OwnC wr W0.heap.size (.slice pa i pc) (nts p) row ∧ w.grownBy wr row ∧ tryF (adj eg) (adj eh) cg ch n (f + 1) p = (List.range' k (n - k)).findSome? FF) (fun kk _ => n - (intOf kk).toNat)
    case atStart => exact ⟨0, by omega, rfl, H.out.2.2.1, World.grownBy.refl _ _, HF.out⟩
    case round =>
      clear HF
      obtain ⟨k, hk, rfl, hv, hg, ht⟩ := hrel
      obtain ⟨wo, rfl⟩ : ∃ wo : World, wo = wr := ⟨_, rfl⟩
      have hbw : Below W0.heap.size W0 wo := H.out.2.1.grown hg H.out.2.1.size (fun g hg => by
        rcases H.out.2.2.1.blk with e | ⟨g', e, h1, _⟩
        · rw [e] at hg; cases hg
        · rw [e] at hg; cases hg; exact h1)
      have HR := Lib.hid (And.intro hv (And.intro hg (And.intro ht hbw)))
      clear hv hg ht hbw
      by_cases hlt : k < n
      · have hEw := H.out.1.below HR.out.2.2.2
        obtain ⟨b1, d1, c1, i1⟩ := hEw.xc
        obtain ⟨b2, d2, c2, i2⟩ := hEw.yc
        obtain ⟨q1, o1, rfl, _, cc1⟩ := i1.at_ (k := i) (by rw [hEw.lg]; exact hin)
        obtain ⟨q2, o2, rfl, _, cc2⟩ := i2.at_ (k := k) (by rw [hEw.lh]; exact hlt)
        obtain ⟨x1, hx1⟩ : ∃ x, cg[i]?.getD 0 = x := ⟨_, rfl⟩
        obtain ⟨x2, hx2⟩ : ∃ x, ch[k]?.getD 0 = x := ⟨_, rfl⟩
        rw [hx1] at cc1
        rw [hx2] at cc2
        have hpi := H.out.2.2.2.2.1
        have hsucc : List.range' k (n - k) = k :: List.range' (k + 1) (n - (k + 1)) := by rw [show n - k = (n - (k + 1)) + 1 by omega, List.range'_succ]
        have hnext : FF k = none → tryF (adj eg) (adj eh) cg ch n (f + 1) p = (List.range' (k + 1) (n - (k + 1))).findSome? FF := fun h => by rw [HR.out.2.2.1, hsucc, List.findSome?_cons, h]
        have hfound : ∀ q, FF k = some q → tryF (adj eg) (adj eh) cg ch n (f + 1) p = some q := fun q h => by rw [HR.out.2.2.1, hsucc, List.findSome?_cons, h]
        have HN := Lib.hid (And.intro hnext hfound)
        clear hnext hfound hsucc i1 i2 hEw
        by_cases hcol : x1 = x2
        · have hc1 : (x1 != x2) = false := by simpa using hcol
          have hpint := fun q => (HR.out.1.ints (by rw [nts_len, hpi]; omega)).drewN q
          have hct := fun q => containsP_calls pa pc (nts p) (k : Int) (wo.drewN q) (hpint q)
          rw [nts_len, hpi] at hct
          by_cases hmem : k ∈ p
          · have hm1 : decide ((k : Int) ∈ nts p) = true := decide_eq_true (nts_mem.2 hmem)
            rw [hm1] at hct
            have hno : FF k = none := by
              rw [HFF.out]
              have : okS (adj eg) (adj eh) cg ch p k = false := by
                unfold okS
                simp [hmem]
              simp [this]
            have HN2 := Lib.hid (HN.out.1 hno)
            have HCt := Lib.hid hct
            clear hx1 hx2 hpi hcol hno hct hpint hm1
            go_wp2
            go_quiet ((go_at_call 55; first | exact Calls.quiet_of_same (HCt.out _) | exact quiet_add_same (HCt.out _)))
            go_wp2
            exact ⟨⟨k + 1, by omega, by go_num, OwnC.below HR.out.1 (below_self_drewN _ _), HR.out.2.1.trans (grown_drewN _ _ _), HN2.out⟩, by simp [intOf]; omega⟩
          · have hm1 : decide ((k : Int) ∈ nts p) = false := decide_eq_false (fun h => hmem (nts_mem.1 h))
            rw [hm1] at hct
            have hcolour : (cg[i]?.getD 0 == ch[k]?.getD 0) = true := by rw [hx1, hx2]; simpa using hcol
            have hmem2 : p.contains k = false := by simpa using hmem
            have HCt := Lib.hid hct
            have HM := Lib.hid (And.intro hcolour (And.intro hmem2 hpi))
            clear hx1 hx2 hpi hcol hct hpint hm1 hmem hcolour hmem2
            go_wp2
            go_quiet ((go_at_call 55; first | exact Calls.quiet_of_same (HCt.out _) | exact quiet_add_same (HCt.out _)))
            go_wp2
            go_loopw [46] (fun jj wr => ∃ j m : Nat, j ≤ i ∧ jj = .int .i64 (j : Int) ∧ wr = wo.drewN m ∧ ∀ x, x < j → (adj eg i x == adj eh k (p[x]?.getD 0)) = true) (fun jj _ => i - (intOf jj).toNat)
            case atStart => exact ⟨0, _, by omega, rfl, rfl, fun x hx => by omega⟩
            case round =>
              obtain ⟨j, m, hj, rfl, rfl, hall⟩ := hrel
              by_cases hjl : j < i
              · have hEw := H.out.1.below HR.out.2.2.2
                obtain ⟨pb, po, rfl, _, cp⟩ := (HR.out.1.ints (by rw [nts_len, HM.out.2.2]; omega)).at_ (k := j) (by rw [nts_len, HM.out.2.2]; exact hjl)
                rw [nts_get (by rw [HM.out.2.2]; exact hjl)] at cp
                have hpj : p[j]?.getD 0 < n := by
                  have : j < p.length := by rw [HM.out.2.2]; exact hjl
                  rw [List.getElem?_eq_getElem this]
                  exact H.out.2.2.2.1 _ (List.getElem_mem this)
                obtain ⟨y, hy2⟩ : ∃ y, p[j]?.getD 0 = y := ⟨_, rfl⟩
                rw [hy2] at cp hpj
                obtain ⟨G1, ca, ra⟩ := hEw.a
                obtain ⟨G2, cb, rb⟩ := hEw.b
                obtain ⟨r1, s1, t1, ca1, ca2⟩ := rows_entry ra hin (show j < n by omega)
                obtain ⟨r2, s2, t2, cb1, cb2⟩ := rows_entry rb hlt hpj
                obtain ⟨z1, hz1⟩ : ∃ z, adjF eg i j = z := ⟨_, rfl⟩
                obtain ⟨z2, hz2⟩ : ∃ z, adjF eh k y = z := ⟨_, rfl⟩
                have hne : (z1 != z2) = !(adj eg i j == adj eh k (p[j]?.getD 0)) := by rw [← hz1, ← hz2, hy2]; exact adjF_ne
                rw [hz1] at ca2
                rw [hz2] at cb2
                have HJ := Lib.hid hall
                clear hz1 hz2 ra rb hEw hy2 hall
                cases hb : (adj eg i j == adj eh k (p[j]?.getD 0)) with
                | true =>
                  rw [hb] at hne
                  have hne2 : (z1 != z2) = false := hne
                  have HB := Lib.hid hb
                  clear hne hb
                  go_wp2
                  go_quiet (fail)
                  go_wp2
                  refine ⟨⟨j + 1, _, by omega, by go_num, by first | rfl | exact World.drewN_drewN _ _ _, fun x hx => ?_⟩, by simp [intOf]; omega⟩
                  rcases Nat.lt_or_ge x j with h | h
                  · exact HJ.out x h
                  · obtain rfl : x = j := by omega
                    exact HB.out
                | false =>
                  rw [hb] at hne
                  have hne2 : (z1 != z2) = true := hne
                  have hno : FF k = none := by
                    rw [HFF.out]
                    have : okS (adj eg) (adj eh) cg ch p k = false := by
                      unfold okS
                      rw [HM.out.2.2]
                      have : ((List.range i).all fun x => adj eg i x == adj eh k (p[x]?.getD 0)) = false := by
                        rw [Bool.eq_false_iff]
                        intro h
                        have := List.all_eq_true.1 h j (List.mem_range.2 hjl)
                        rw [hb] at this; cases this
                      simp [this]
                    simp [this]
                  have HN2 := Lib.hid (HN.out.1 hno)
                  clear hne hb hno
                  go_wp2
                  go_quiet (fail)
                  go_wp2
                  exact ⟨⟨k + 1, by omega, by go_num, OwnC.below HR.out.1 (below_self_drewN _ _), HR.out.2.1.trans (grown_drewN _ _ _), HN2.out⟩, by simp [intOf]; omega⟩
              · obtain rfl : j = i := by omega
                have hok : okS (adj eg) (adj eh) cg ch p k = true := by
                  unfold okS
                  rw [HM.out.2.2, HM.out.1, HM.out.2.1, Bool.true_and, Bool.not_false, Bool.true_and]
                  exact List.all_eq_true.2 fun x hx => hall x (List.mem_range.1 hx)
                have hFk : FF k = tryF (adj eg) (adj eh) cg ch n f (p ++ [k]) := by rw [HFF.out]; simp [hok]
                obtain ⟨W2, hW2⟩ : ∃ W2, W2 = wo.drewN m := ⟨_, rfl⟩
                have HP := Lib.hid (show OwnC W2 W0.heap.size (.slice pa j pc) (nts p) row ∧ w.grownBy W2 row ∧ Below W0.heap.size W0 W2 from by
                  rw [hW2]
                  exact ⟨OwnC.below HR.out.1 (below_self_drewN _ _), HR.out.2.1.trans (grown_drewN _ _ _), HR.out.2.2.2.trans (below_self_drewN _ _)⟩)
                rw [← hW2]
                clear hW2 hall hok
                have hlt13 : T < W0.heap.size := block_lt_of_cell (p := ⟨T, 0, none⟩) H.out.1.t
                have hrowT : row ≠ some T := by
                  rcases HP.out.1.blk with e | ⟨g, e, hg1, _⟩
                  · rw [e]; simp
                  · rw [e]; intro e2; cases e2; omega
                have htc := (H.out.1.below HP.out.2.2).t
                have hD2 : W0.heap.size ≤ W2.heap.size := HP.out.2.2.size
                have hpl : (nts p).length < 1000000 := by rw [nts_len]; have := H.out.2.2.2.2.1; omega
                obtain ⟨i3, hi3, hz3, hs3, hb3⟩ := info_parts Tryz.info3
                have I3 := Lib.hid (And.intro hi3 (And.intro hz3 (And.intro hs3 hb3)))
                clear hi3 hz3 hs3 hb3 hlt13
                cases ho : tryF (adj eg) (adj eh) cg ch n f (p ++ [k]) with
                | none =>
                  have HO := Lib.hid (And.intro ho (hFk.trans ho))
                  clear ho hFk
                  go_wp2
                  go_region_held3 (fun W => W.cell? ⟨T, 0, none⟩ = some (.func (.func 53) #[] #[.pointer (some ⟨X, 0, none⟩), .pointer (some ⟨Y, 0, none⟩), .pointer (some ⟨A, 0, none⟩), .pointer (some ⟨B, 0, none⟩), .pointer (some ⟨T, 0, none⟩)]) ∧ W2.grownBy W row)
                    (first
                      | assumption
                      | exact ⟨htc, grown_drewN _ _ _⟩
                      | exact keepT (by assumption) (by first | assumption | exact grown_alloc _ _ _) hrowT
                      | exact keepT ⟨htc, World.grownBy.refl _ _⟩ (by first | assumption | exact grown_alloc _ _ _ | exact grown_drewN _ _ _) hrowT)
                    (first
                      | (go_at_call 53; refine HC.out.mono ?_; rintro e w7 ⟨he, h8, h9⟩; subst he; rw [nts_app] at h8; have hg7 := (try_back (World.grownBy.refl W2 _) HA.out.1 HA.out.2 h8 h9).2.1; have HZ := Lib.hid (And.intro True.intro (try_back HP.out.2.1 HA.out.1 HA.out.2 h8 h9)); clear h8 h9 )
                      | (refine step_appC ?_ (.tmp 69) (.tmp 71) 40 ?_ i3 Tryz.underlying40 I3.out.1 I3.out.2.1 I3.out.2.2.1 I3.out.2.2.2 W0.heap.size (k : Int) (.slice pa j pc) (nts p) ?_ row W2 HP.out.1 ?_ ?_ hpl hD2 ?_
                         rfl
                         rfl
                         rfl
                         first | exact alloc_b (Below.refl _ _) _ | exact alloc_b (below_self_drewN _ _) _
                         exact ⟨_, rfl, by simp⟩
                         intro v' w6 row' hA hgr
                         obtain ⟨wx, hxx, hA⟩ := hA
                         have HA := Lib.hid (And.intro hxx hA)
                         have HC := Lib.hid (IH.out (p ++ [k]) v' row' w6 (try_l1 H.out.2.2.2.2.2) (try_l2 H.out.2.2.2.1 hlt) (app_at hA HP.out.1 HP.out.2.2 hxx) (try_l3 hA.1))
                         rw [HO.out.1] at HC
                         clear hA hxx))
                  all_goals go_wp2
                  all_goals exact ⟨⟨k + 1, by omega, by go_num, HZ.out.2.1, HZ.out.2.2.1, HN.out.1 HO.out.2⟩, by simp [intOf]; omega⟩
                | some q =>
                  have HO := Lib.hid (And.intro ho (hFk.trans ho))
                  clear ho hFk
                  go_wp2
                  go_region_held3 (fun W => W.cell? ⟨T, 0, none⟩ = some (.func (.func 53) #[] #[.pointer (some ⟨X, 0, none⟩), .pointer (some ⟨Y, 0, none⟩), .pointer (some ⟨A, 0, none⟩), .pointer (some ⟨B, 0, none⟩), .pointer (some ⟨T, 0, none⟩)]) ∧ W2.grownBy W row)
                    (first
                      | assumption
                      | exact ⟨htc, grown_drewN _ _ _⟩
                      | exact keepT (by assumption) (by first | assumption | exact grown_alloc _ _ _) hrowT
                      | exact keepT ⟨htc, World.grownBy.refl _ _⟩ (by first | assumption | exact grown_alloc _ _ _ | exact grown_drewN _ _ _) hrowT)
                    (first
                      | (go_at_call 53; refine HC.out.mono ?_; rintro e w7 ⟨he, h8, h9⟩; obtain ⟨r, rfl, he⟩ := he; rw [nts_app] at h8; have hg7 := (try_back (World.grownBy.refl W2 _) HA.out.1 HA.out.2 h8 h9).2.1; have HZ := Lib.hid (And.intro he (try_back HP.out.2.1 HA.out.1 HA.out.2 h8 h9)); clear h8 h9 he)
                      | (refine step_appC ?_ (.tmp 69) (.tmp 71) 40 ?_ i3 Tryz.underlying40 I3.out.1 I3.out.2.1 I3.out.2.2.1 I3.out.2.2.2 W0.heap.size (k : Int) (.slice pa j pc) (nts p) ?_ row W2 HP.out.1 ?_ ?_ hpl hD2 ?_
                         rfl
                         rfl
                         rfl
                         first | exact alloc_b (Below.refl _ _) _ | exact alloc_b (below_self_drewN _ _) _
                         exact ⟨_, rfl, by simp⟩
                         intro v' w6 row' hA hgr
                         obtain ⟨wx, hxx, hA⟩ := hA
                         have HA := Lib.hid (And.intro hxx hA)
                         have HC := Lib.hid (IH.out (p ++ [k]) v' row' w6 (try_l1 H.out.2.2.2.2.2) (try_l2 H.out.2.2.2.1 hlt) (app_at hA HP.out.1 HP.out.2.2 hxx) (try_l3 hA.1))
                         rw [HO.out.1] at HC
                         clear hA hxx))
                  all_goals go_wp2
                  all_goals rw [Exit.noGoto_ret]
                  all_goals go_ret2
                  all_goals rw [HN.out.2 q HO.out.2]
                  all_goals exact ⟨⟨r, rfl, HZ.out.1.mono HZ.out.2.2.2⟩, HZ.out.2.1, HZ.out.2.2.1⟩
        · have hc1 : (x1 != x2) = true := by simpa using hcol
          have hno : FF k = none := by
            rw [HFF.out]
            have : okS (adj eg) (adj eh) cg ch p k = false := by
              unfold okS
              rw [hpi, hx1, hx2]
              simp [hcol]
            simp [this]
          have HN2 := Lib.hid (HN.out.1 hno)
          clear hx1 hx2 hpi hcol hno
          go_wp2
          go_quiet (fail)
          go_wp2
          exact ⟨⟨k + 1, by omega, by go_num, OwnC.below HR.out.1 (below_self_drewN _ _), HR.out.2.1.trans (grown_drewN _ _ _), HN2.out⟩, by simp [intOf]; omega⟩
      · obtain rfl : k = n := by omega
        have hno : tryF (adj eg) (adj eh) cg ch k (f + 1) p = none := by rw [HR.out.2.2.1]; simp
        have HNo := Lib.hid hno
        clear hno
        go_wp2
        rw [Exit.noGoto_ret]
        go_ret2
        rw [HNo.out]
        exact ⟨rfl, HR.out.1, HR.out.2.1⟩
end Go.Proofs.YtjjjohmppehejaaGreat
