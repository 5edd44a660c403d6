/- The reference's extend: forced images. -/
import Derived.Test.YtjjjohmppehejaaGreatExtW
import Derived.Test.YtjjjohmppehejaaGreatRefS
import Derived.Deep.DeepCutAuto
import Derived.Lib.LazyBuf
set_option linter.unusedSimpArgs false
set_option linter.unusedVariables false
namespace Go.Proofs.YtjjjohmppehejaaGreat
open Go.RowKit Plain PlainG PlainX
/-- Forced images as ints. -/
def frcL (n : Nat) (fs : List Nat) : List Int := nts fs ++ List.replicate (n - fs.length) (-1)
theorem frcL_len {n : Nat} {fs : List Nat} (h : fs.length ≤ n) : (frcL n fs).length = n := by simp [frcL, nts_len]; omega
theorem frcL_at {n i : Nat} {fs : List Nat} (h : fs.length ≤ n) (hi : i < n) : (frcL n fs)[i]?.getD 0 = match fs[i]? with | none => -1 | some q => (q : Int) := by
  unfold frcL
  by_cases hl : i < fs.length
  · rw [List.getElem?_append_left (by rw [nts_len]; exact hl), nts_get hl, List.getElem?_eq_getElem hl]; rfl
  · rw [List.getElem?_append_right (by rw [nts_len]; omega), List.getElem?_eq_none (by omega : fs.length ≤ i), nts_len]
    simp [show i - fs.length < n - fs.length by omega]
theorem adjF_beq {f g : List E2} {i k x y : Nat} : (adjF f i k == adjF g x y) = (adj f i k == adj g x y) := by
  unfold adjF
  cases adj f i k <;> cases adj g x y <;> rfl
theorem refF_len {A B : Adj} {cg ch : List Int} {n : Nat} {fs : List Nat} : ∀ {f : Nat} {p q : List Nat}, refF A B cg ch n fs f p = some q → q.length = p.length + f := by
  intro f
  induction f with
  | zero => intro p q h; simp [refF] at h; subst h; simp
  | succ f ih =>
    intro p q h
    unfold refF at h
    obtain ⟨l1, v, l2, h1, h2, h3⟩ := List.findSome?_eq_some_iff.1 h
    split at h2
    · have := ih h2; simp at this; omega
    · cases h2
theorem all_succ (g : Nat → Bool) (j : Nat) : (List.range (j + 1)).all g = ((List.range j).all g && g j) := by rw [List.range_succ, List.all_append]; simp
/-- The reference tests the same as the program. -/
theorem okS_ref {eg eh : List E2} {cg ch : List Int} {p : List Nat} {i k : Nat} (hp : p.length = i) (hc : cg[i]?.getD 0 = ch[k]?.getD 0) :
    okS (adj eg) (adj eh) cg ch p k = (List.range i).all fun z => (p[z]?.getD 0 != k) && (adj eg z i == adj eh (p[z]?.getD 0) k) := by
  unfold okS
  rw [hp, hc]
  simp only [beq_self_eq_true, Bool.true_and]
  rw [Bool.eq_iff_iff]
  simp only [Bool.and_eq_true, Bool.not_eq_true', List.all_eq_true, List.mem_range]
  constructor
  · rintro ⟨h1, h2⟩ z hz
    refine ⟨?_, ?_⟩
    · have hl : z < p.length := by omega
      rw [List.getElem?_eq_getElem hl]
      simp only [Option.getD_some, bne_iff_ne]
      intro e
      have : p.contains k = true := by rw [List.contains_iff_mem, ← e]; exact List.getElem_mem hl
      rw [this] at h1; cases h1
    · have := h2 z hz
      rw [adj_symm eg z i, adj_symm eh _ k]; exact this
  · intro h
    refine ⟨?_, fun z hz => ?_⟩
    · rw [Bool.eq_false_iff]
      intro h2
      rw [List.contains_iff_mem, List.mem_iff_getElem?] at h2
      obtain ⟨z, hz⟩ := h2
      have hl := (List.getElem?_eq_some_iff.1 hz).1
      have := (h z (by omega)).1
      rw [hz] at this; simp at this
    · have := (h z hz).2
      rw [adj_symm eg z i, adj_symm eh _ k] at this; exact this
/-- What the reference's extend answers. -/
def RefRes (w : World) (o : Option (List Nat)) (e : Ending) (w' : World) : Prop :=
  match o with
  | some q => ∃ r, e = .returned r ∧ Own w' w.heap.size r 3 (ints (nts q))
  | none => e = .returned (.slice none 0 0)
set_option maxRecDepth 100000 in
set_option maxHeartbeats 4000000 in
theorem refx_calls {n : Nat} {eg eh : List E2} {cg ch : List Int} {fs : List Nat} {ga gb ha hb fa : Option Addr} {gc gd hc hd ac bc fc G1 G2 : Nat} (hn : n ≤ 100) (hl1 : cg.length = n) (hl2 : ch.length = n) (hfs : fs.length ≤ n) : ∀ (f : Nat) (p : List Nat) (pa : Option Addr) (i pc : Nat) (w : World),
    p.length = i → i + f = n → (∀ x ∈ p, x < n) → Ints w gb cg → Ints w hb ch → Rows w (some ⟨G1, 0, none⟩) (matF n (adjF eg)) → Rows w (some ⟨G2, 0, none⟩) (matF n (adjF eh)) → Ints w fa (frcL n fs) → Ints w pa (nts p) → i ≤ pc → (pa = none → i = 0 ∧ pc = 0) → (pa = none ∨ ∃ b o, pa = some ⟨b, o, none⟩ ∧ b < w.heap.size) →
    Calls Tryz.prog 49 #[.agg #[.int .i64 (n : Int), .slice ga eg.length gc, .slice gb n gd], .agg #[.int .i64 (n : Int), .slice ha eh.length hc, .slice hb n hd], .slice (some ⟨G1, 0, none⟩) n ac, .slice (some ⟨G2, 0, none⟩) n bc, .slice fa n fc, .slice pa i pc] w fun e w' =>
      RefRes w (refF (adj eg) (adj eh) cg ch n fs f p) e w' ∧ Below w.heap.size w w' := by
  obtain ⟨i3, hi3, hz3, hs3, hb3⟩ := info_parts Tryz.info3
  have I3 := Lib.hid (And.intro hi3 (And.intro hz3 (And.intro hs3 hb3)))
  clear hi3 hz3 hs3 hb3
  intro f
  induction f with
  | zero =>
    intro p pa i pc w hp hi hlt h1 h2 h3 h4 h5 h6 hic hpa hpb
    obtain rfl : i = n := by omega
    obtain ⟨X, hX⟩ : ∃ X, w.heap.size = X := ⟨_, rfl⟩
    obtain ⟨L, hL⟩ : ∃ L, eg.length = L := ⟨_, rfl⟩
    obtain ⟨M, hM⟩ : ∃ M, eh.length = M := ⟨_, rfl⟩
    rw [hL, hM]
    obtain ⟨W1, hW1⟩ : ∃ W1, (w.alloc (.cells #[.int .i64 (i : Int), .slice ga L gc, .slice gb i gd] 25)).alloc (.cells #[.int .i64 (i : Int), .slice ha M hc, .slice hb i hd] 25) = W1 := ⟨_, rfl⟩
    have hbw : Below w.heap.size w W1 := by rw [← hW1]; exact alloc_b (alloc_b (Below.refl _ _) _) _
    have x0 : W1.cell? ⟨X, 0, none⟩ = some (.int .i64 (i : Int)) := by rw [← hW1, ← hX]; simp
    have hem := Own.new (w := W1) (B := w.heap.size) 3 [] hbw.size (Nat.zero_le _)
    have hb2 : Below w.heap.size w (W1.alloc (.cells #[] 3)) := alloc_b hbw _
    have H := Lib.hid (And.intro hem (And.intro hb2 (h6.below hb2)))
    clear h1 h2 h3 h4 h5 hem hb2 hbw
    cases pa with
    | none =>
      obtain ⟨rfl, rfl⟩ := hpa rfl
      have hp0 : p = [] := List.eq_nil_of_length_eq_zero hp
      subst hp0
      go_enter Tryz.func49, Tryz.ntmps49
      go_wp2
      go_ret
      refine ⟨⟨_, rfl, ?_⟩, ?_⟩
      · have := H.out.1; rw [← hW1] at this; simpa [hX, nts, ints] using this
      · have := H.out.2.1; rw [← hW1] at this; simpa [hX, nts, ints] using this
    | some ad =>
      go_enter Tryz.func49, Tryz.ntmps49
      go_wp2_with (at_builtin; refine appA rfl (.tmp 24) (.tmp 25) 40 3 rfl i3 (.int .i64 0) 8 Tryz.underlying40 I3.out.1 I3.out.2.1 I3.out.2.2.1 I3.out.2.2.2 rfl (by omega) w.heap.size (.slice (some ⟨W1.heap.size, 0, none⟩) 0 0) [] (ints (nts p)) rfl H.out.1 ad i pc rfl (by rw [ints_len, nts_len, hp]) H.out.2.2.src (ints_one (nts p)) (by simp; omega) H.out.2.1.size ?_; intro v' w' h2 h3; have H9 := Lib.hid (And.intro h2 h3); clear h2 h3)
      go_ret
      exact ⟨⟨_, rfl, by have := H9.out.1; simpa using this⟩, H.out.2.1.grown H9.out.2 H.out.2.1.size (fun k hk => by cases hk; exact (World.ownsRow.lt H.out.1 _ rfl).1)⟩
  | succ f ih =>
    intro p pa i pc w hp hi hlt h1 h2 h3 h4 h5 h6 hic hpa hpb
    have IH := Lib.hid ih
    clear ih
    have hin : i < n := by omega
    have hin' : ((i : Int) == (n : Int)) = false := by simp; omega
    obtain ⟨X, hX⟩ : ∃ X, w.heap.size = X := ⟨_, rfl⟩
    obtain ⟨L, hL⟩ : ∃ L, eg.length = L := ⟨_, rfl⟩
    obtain ⟨M, hM⟩ : ∃ M, eh.length = M := ⟨_, rfl⟩
    rw [hL, hM] at IH ⊢
    obtain ⟨W1, hW1⟩ : ∃ W1, (w.alloc (.cells #[.int .i64 (n : Int), .slice ga L gc, .slice gb n gd] 25)).alloc (.cells #[.int .i64 (n : Int), .slice ha M hc, .slice hb n hd] 25) = W1 := ⟨_, rfl⟩
    have hbw : Below w.heap.size w W1 := by rw [← hW1]; exact alloc_b (alloc_b (Below.refl _ _) _) _
    have x0 : W1.cell? ⟨X, 0, none⟩ = some (.int .i64 (n : Int)) := by rw [← hW1, ← hX]; simp
    have x1 : W1.cell? ⟨X, 1, none⟩ = some (.slice ga L gc) := by rw [← hW1, ← hX]; simp
    have x2 : W1.cell? ⟨X, 2, none⟩ = some (.slice gb n gd) := by rw [← hW1, ← hX]; simp
    have y0 : W1.cell? ⟨X + 1, 0, none⟩ = some (.int .i64 (n : Int)) := by rw [← hW1, ← hX]; simp
    have y1 : W1.cell? ⟨X + 1, 1, none⟩ = some (.slice ha M hc) := by rw [← hW1, ← hX]; simp
    have y2 : W1.cell? ⟨X + 1, 2, none⟩ = some (.slice hb n hd) := by rw [← hW1, ← hX]; simp
    have H := Lib.hid (And.intro (h1.below hbw) (And.intro (h2.below hbw) (And.intro (h3.below hbw) (And.intro (h4.below hbw) (And.intro (h5.below hbw) (And.intro (h6.below hbw) hbw))))))
    have HP := Lib.hid (And.intro hp (And.intro hi (And.intro hlt (And.intro hpb hX))))
    have HX0 := Lib.hid (And.intro x0 (And.intro x1 (And.intro x2 (And.intro y0 (And.intro y1 y2)))))
    have hki : ∀ k, IntKind.i64.wrap (k : Int) = (k : Int) → True := fun _ _ => trivial
    clear h1 h2 h3 h4 h5 h6 hbw hp hi hlt hpb hki
    obtain ⟨FF, hFF⟩ : ∃ FF : Nat → Option (List Nat), FF = fun x => if (mayF fs i x && okS (adj eg) (adj eh) cg ch p x) = true then refF (adj eg) (adj eh) cg ch n fs f (p ++ [x]) else none := ⟨_, rfl⟩
    have HF := Lib.hid (show refF (adj eg) (adj eh) cg ch n fs (f + 1) p = (List.range' 0 n).findSome? FF by rw [hFF, ← List.range_eq_range', ← HP.out.1]; rfl)
    have HFF := Lib.hid hFF
    clear hFF
    go_enter Tryz.func49, Tryz.ntmps49
    go_wp2
    clear hW1 hX x0 x1 x2 y0 y1 y2
    go_loopw [14] (fun kk wr => ∃ k : Nat, k ≤ n ∧ kk = .int .i64 (k : Int) ∧ Below W1.heap.size W1 wr ∧ refF (adj eg) (adj eh) cg ch n fs (f + 1) p = (List.range' k (n - k)).findSome? FF) (fun kk _ => n - (intOf kk).toNat)
    case atStart => exact ⟨0, by omega, rfl, Below.refl _ _, HF.out⟩
    case round =>
      clear HF
      obtain ⟨k, hk, rfl, hb, ht⟩ := hrel
      obtain ⟨wo, rfl⟩ : ∃ wo : World, wo = wr := ⟨_, rfl⟩
      have kk : ∀ {q : Addr} {u : Value}, W1.cell? q = some u → wo.cell? q = some u := fun e => (hb.cell (block_lt_of_cell e)).trans e
      have x0 := kk HX0.out.1
      have x1 := kk HX0.out.2.1
      have x2 := kk HX0.out.2.2.1
      have y0 := kk HX0.out.2.2.2.1
      have y1 := kk HX0.out.2.2.2.2.1
      have y2 := kk HX0.out.2.2.2.2.2
      have HR := Lib.hid (And.intro hb ht)
      clear hb ht kk
      by_cases hkn : k < n
      · have hcgi := H.out.1.below HR.out.1
        have hchi := H.out.2.1.below HR.out.1
        have hfi := H.out.2.2.2.2.1.below HR.out.1
        obtain ⟨q1, o1, rfl, _, e1⟩ := hcgi.at_ (k := i) (by rw [hl1]; exact hin)
        obtain ⟨q2, o2, rfl, _, e2⟩ := hchi.at_ (k := k) (by rw [hl2]; exact hkn)
        obtain ⟨q3, o3, rfl, _, e3⟩ := hfi.at_ (k := i) (by rw [frcL_len hfs]; exact hin)
        rw [frcL_at hfs hin] at e3
        obtain ⟨c1, hc1⟩ : ∃ x, cg[i]?.getD 0 = x := ⟨_, rfl⟩
        obtain ⟨c2, hc2⟩ : ∃ x, ch[k]?.getD 0 = x := ⟨_, rfl⟩
        rw [hc1] at e1
        rw [hc2] at e2
        have hsucc : List.range' k (n - k) = k :: List.range' (k + 1) (n - (k + 1)) := by rw [show n - k = (n - (k + 1)) + 1 by omega, List.range'_succ]
        have HN := Lib.hid (show (FF k = none → refF (adj eg) (adj eh) cg ch n fs (f + 1) p = (List.range' (k + 1) (n - (k + 1))).findSome? FF) ∧ (∀ q, FF k = some q → refF (adj eg) (adj eh) cg ch n fs (f + 1) p = some q) from
          ⟨fun h => by rw [HR.out.2, hsucc, List.findSome?_cons, h], fun q h => by rw [HR.out.2, hsucc, List.findSome?_cons, h]⟩)
        clear hsucc hcgi hchi hfi
        by_cases hmay : mayF fs i k = true
        · have hF : ∃ F : Int, (match fs[i]? with | none => -1 | some q => (q : Int)) = F ∧ (decide ((0 : Int) ≤ F) = false ∨ (decide ((0 : Int) ≤ F) = true ∧ (F != (k : Int)) = false)) := by
            unfold mayF at hmay
            cases hf : fs[i]? with
            | none => exact ⟨-1, rfl, .inl rfl⟩
            | some q =>
              rw [hf] at hmay
              have : q = k := by simpa using hmay
              subst this
              exact ⟨(q : Int), rfl, .inr ⟨decide_eq_true (Int.natCast_nonneg _), by simp⟩⟩
          obtain ⟨F, hF, hFc⟩ := hF
          rw [hF] at e3
          have HMay := Lib.hid (And.intro hmay (And.intro hc1 hc2))
          clear hF hmay hc1 hc2
          go_upto_region 7 with (fail)
          go_cut [58] (fun u58 wx => u58 = .bool (c1 != c2) ∧ ∃ m, wx = wo.drewN m)
          case first =>
            rcases hFc with g1 | ⟨g1, g2⟩
            · go_quiet (fail)
              go_wp2
              go_meet
              exact ⟨rfl, _, rfl⟩
            · go_quiet (fail)
              go_wp2
              go_meet
              exact ⟨rfl, _, rfl⟩
          case rest =>
            obtain ⟨rfl, m0, rfl⟩ := hcut
            clear hFc e3 e1 e2
            by_cases hcol : c1 = c2
            · have hce : (c1 != c2) = false := by simpa using hcol
              rw [hce]
              have HC := Lib.hid hcol
              clear hcol hce
              go_wp2
              go_loopw [15, 16] (fun gg uu wr => ∃ j m : Nat, j ≤ i ∧ uu = .int .i64 (j : Int) ∧ wr = wo.drewN m ∧ ∃ G : Bool, gg = .bool G ∧ G = (List.range j).all fun z => (p[z]?.getD 0 != k) && (adj eg z i == adj eh (p[z]?.getD 0) k)) (fun _ uu _ => i - (intOf uu).toNat)
              case atStart => exact ⟨0, m0, by omega, rfl, rfl, true, rfl, rfl⟩
              case round =>
                obtain ⟨j, m, hj, rfl, rfl, G, rfl, hG⟩ := hrel
                have HG := Lib.hid hG
                clear hG
                by_cases hgo : j < i ∧ G = true
                · obtain ⟨hji, rfl⟩ := hgo
                  obtain ⟨pb, po, rfl, _, cp⟩ := (H.out.2.2.2.2.2.1.below HR.out.1).at_ (k := j) (by rw [nts_len, HP.out.1]; exact hji)
                  rw [nts_get (by rw [HP.out.1]; exact hji)] at cp
                  have hyn : p[j]?.getD 0 < n := by
                    have h1 : j < p.length := by rw [HP.out.1]; exact hji
                    rw [List.getElem?_eq_getElem h1]; exact HP.out.2.2.1 _ (List.getElem_mem h1)
                  obtain ⟨y, hy⟩ : ∃ y, p[j]?.getD 0 = y := ⟨_, rfl⟩
                  rw [hy] at cp hyn
                  have hstep : ∀ r : Bool, ((y != k) && (adj eg j i == adj eh y k)) = r → r = (List.range (j + 1)).all fun z => (p[z]?.getD 0 != k) && (adj eg z i == adj eh (p[z]?.getD 0) k) := fun r hr => by rw [all_succ, ← HG.out, Bool.true_and, hy, hr]
                  have HS := Lib.hid hstep
                  clear hy hstep
                  by_cases hdup : y = k
                  · subst hdup
                    have hd1 : ((y : Int) != (y : Int)) = false := by simp
                    go_wp2
                    go_quiet (fail)
                    go_wp2
                    exact ⟨⟨j + 1, _, by omega, by go_num, by first | rfl | exact World.drewN_drewN _ _ _, false, rfl, HS.out false (by simp)⟩, by simp [intOf]; omega⟩
                  · have hd1 : ((y : Int) != (k : Int)) = true := by simp; omega
                    obtain ⟨r1, s1, t1, ca1, ca2⟩ := rows_entry (H.out.2.2.1.below HR.out.1) (show j < n by omega) hin
                    obtain ⟨r2, s2, t2, cb1, cb2⟩ := rows_entry (H.out.2.2.2.1.below HR.out.1) hyn hkn
                    obtain ⟨z1, hz1⟩ : ∃ z, adjF eg j i = z := ⟨_, rfl⟩
                    obtain ⟨z2, hz2⟩ : ∃ z, adjF eh y k = z := ⟨_, rfl⟩
                    have hbq : (z1 == z2) = (adj eg j i == adj eh y k) := by rw [← hz1, ← hz2]; exact adjF_beq
                    rw [hz1] at ca2
                    rw [hz2] at cb2
                    have hyk : (y != k) = true := by simpa using hdup
                    obtain ⟨R, hR⟩ : ∃ R, (adj eg j i == adj eh y k) = R := ⟨_, rfl⟩
                    rw [hR] at hbq
                    have HS2 := Lib.hid (HS.out R (by rw [hyk, hR]; rfl))
                    clear hz1 hz2 hdup hyk hR
                    cases R with
                    | true =>
                      go_wp2
                      go_quiet (fail)
                      go_wp2
                      exact ⟨⟨j + 1, _, by omega, by go_num, by first | rfl | exact World.drewN_drewN _ _ _, true, rfl, HS2.out⟩, by simp [intOf]; omega⟩
                    | false =>
                      go_wp2
                      go_quiet (fail)
                      go_wp2
                      exact ⟨⟨j + 1, _, by omega, by go_num, by first | rfl | exact World.drewN_drewN _ _ _, false, rfl, HS2.out⟩, by simp [intOf]; omega⟩
                · cases G with
                  | false =>
                    have hno : FF k = none := by
                      rw [HFF.out]
                      have : okS (adj eg) (adj eh) cg ch p k = false := by
                        rw [okS_ref HP.out.1 (by rw [HMay.out.2.1, HMay.out.2.2]; exact HC.out), Bool.eq_false_iff]
                        intro h
                        have h2 : ((List.range j).all fun z => (p[z]?.getD 0 != k) && (adj eg z i == adj eh (p[z]?.getD 0) k)) = true := List.all_eq_true.2 fun z hz => List.all_eq_true.1 h z (List.mem_range.2 (by have := List.mem_range.1 hz; omega))
                        rw [← HG.out] at h2; cases h2
                      simp [this]
                    have HN2 := Lib.hid (HN.out.1 hno)
                    clear hno hgo
                    by_cases hji : j < i
                    · go_wp2
                      exact ⟨⟨k + 1, by omega, by go_num, HR.out.1.trans (below_self_drewN _ _), HN2.out⟩, by simp [intOf]; omega⟩
                    · go_wp2
                      exact ⟨⟨k + 1, by omega, by go_num, HR.out.1.trans (below_self_drewN _ _), HN2.out⟩, by simp [intOf]; omega⟩
                  | true =>
                    obtain rfl : j = i := by
                      rcases Nat.lt_or_ge j i with h | h
                      · exact absurd ⟨h, rfl⟩ hgo
                      · omega
                    have hok : okS (adj eg) (adj eh) cg ch p k = true := by
                      rw [okS_ref HP.out.1 (by rw [HMay.out.2.1, HMay.out.2.2]; exact HC.out), ← HG.out]
                    have hFk : FF k = refF (adj eg) (adj eh) cg ch n fs f (p ++ [k]) := by rw [HFF.out]; simp [hok, HMay.out.1]
                    clear hgo hok
                    have hFk' := hFk
                    clear hFk
                    obtain ⟨W2, hW2⟩ : ∃ W2, W2 = wo.drewN m := ⟨_, rfl⟩
                    have hb2 : Below wo.heap.size wo W2 := by rw [hW2]; exact below_self_drewN _ _
                    have hbW2 : Below W1.heap.size W1 W2 := below_two HR.out.1 hb2
                    have hx0 : W2.cell? ⟨X, 0, none⟩ = some (.int .i64 (n : Int)) ∧ W2.cell? ⟨X, 1, none⟩ = some (.slice ga L gc) ∧ W2.cell? ⟨X, 2, none⟩ = some (.slice (some ⟨q1, o1, none⟩) n gd) ∧ W2.cell? ⟨X + 1, 0, none⟩ = some (.int .i64 (n : Int)) ∧ W2.cell? ⟨X + 1, 1, none⟩ = some (.slice ha M hc) ∧ W2.cell? ⟨X + 1, 2, none⟩ = some (.slice (some ⟨q2, o2, none⟩) n hd) ∧ Below W2.heap.size W2 W2 := by
                      rw [hW2]; exact ⟨x0, x1, x2, y0, y1, y2, Below.refl _ _⟩
                    rw [← hW2]
                    have hcl := fun W => run_clip (W := W) (a := pa) hic (by omega) hpa
                    have hOC : OwnC W2 W2.heap.size (.slice pa j j) (nts p) none := by
                      have h1 := OwnC.full (w := W2) (B := W2.heap.size) ((H.out.2.2.2.2.2.1.below hbW2)) (by rw [nts_len]; have := HP.out.1; omega) (HP.out.2.2.2.1.imp id (fun ⟨b, o, e, hlt⟩ => ⟨b, o, e, by have e1 := H.out.2.2.2.2.2.2.size; have e2 := hbW2.size; omega⟩))
                      rw [nts_len, HP.out.1] at h1
                      exact h1
                    have hpl9 : (nts p).length < 1000000 := by rw [nts_len]; have := HP.out.1; omega
                    have hnq := fun (W : World) (a : Option Addr) (l c : Nat) => Go.run_neq_slice_nil (P := Tryz.prog) W 40 3 a l c Tryz.underlying40
                    have hq9 : ∀ q, refF (adj eg) (adj eh) cg ch n fs f (p ++ [k]) = some q → 0 < (ints (nts q)).length := fun q h => by rw [ints_len, nts_len, refF_len h]; simp; omega
                    clear hW2 hb2
                    cases ho : refF (adj eg) (adj eh) cg ch n fs f (p ++ [k]) with
                    | none =>
                      have HO := Lib.hid (And.intro ho (hFk'.trans ho))
                      clear ho hFk'
                      go_wp2
                      go_region_held3 (fun W => W.cell? ⟨X, 0, none⟩ = some (.int .i64 (n : Int)) ∧ W.cell? ⟨X, 1, none⟩ = some (.slice ga L gc) ∧ W.cell? ⟨X, 2, none⟩ = some (.slice (some ⟨q1, o1, none⟩) n gd) ∧ W.cell? ⟨X + 1, 0, none⟩ = some (.int .i64 (n : Int)) ∧ W.cell? ⟨X + 1, 1, none⟩ = some (.slice ha M hc) ∧ W.cell? ⟨X + 1, 2, none⟩ = some (.slice (some ⟨q2, o2, none⟩) n hd) ∧ Below W2.heap.size W2 W)
                        (first
                          | assumption
                          | exact hx0
                          | exact keepG (Nat.le_refl _) (by assumption) (by first | assumption | exact alloc_b (Below.refl _ _) _ | exact below_self_drewN _ _)
                          | exact keepG (Nat.le_refl _) hx0 (by first | assumption | exact alloc_b (Below.refl _ _) _ | exact below_self_drewN _ _))
                        (first
                          | (go_at_call 49; refine H6.out.1.mono ?_; rintro e w7 ⟨he, hb7⟩; subst he; have H7 := Lib.hid (And.intro True.intro (below_two H6.out.2 hb7)))
                          | (refine step_appC ?_ (.tmp 103) (.tmp 105) 40 ?_ i3 Tryz.underlying40 I3.out.1 I3.out.2.1 I3.out.2.2.1 I3.out.2.2.2 W2.heap.size (k : Int) (.slice pa j j) (nts p) ?_ none W2 hOC ?_ ?_ hpl9 (Nat.le_refl _) ?_
                             rfl
                             rfl
                             rfl
                             first | exact alloc_b (Below.refl _ _) _ | exact alloc_b (below_self_drewN _ _) _
                             exact ⟨_, rfl, by simp⟩
                             intro v' w6 row' hA hgr
                             obtain ⟨wx, hxx, hA⟩ := hA
                             have hb6 : Below W2.heap.size W2 w6 := below_two hxx (below_of_grown hA.2.1)
                             have hb61 : Below W1.heap.size W1 w6 := below_two hbW2 hb6
                             have hO6 := try_l3 hA.1
                             obtain ⟨pa', pc', rfl⟩ := hO6.form
                             have hE6 := IH.out (p ++ [k]) pa' _ pc' w6 (by rw [nts_len]) (by rw [nts_len]; have := HP.out.2.1; have := HP.out.1; simp; omega) (try_l2 HP.out.2.2.1 hkn) (H.out.1.below hb61) (H.out.2.1.below hb61) (H.out.2.2.1.below hb61) (H.out.2.2.2.1.below hb61) (H.out.2.2.2.2.1.below hb61) (hO6.ints (by rw [nts_len]; simp; have := HP.out.1; omega)) hO6.ext.2.1 hO6.ext.2.2.1 hO6.ext.2.2.2
                             rw [HO.out.1] at hE6
                             have H6 := Lib.hid (And.intro hE6 hb6)
                             clear hE6 hO6 hA hxx hgr hb61))
                      all_goals go_wp2
                      all_goals exact ⟨⟨k + 1, by omega, by go_num, below_two hbW2 H7.out.2, HN.out.1 HO.out.2⟩, by simp [intOf]; omega⟩
                    | some q =>
                      have hq0 := hq9 q ho
                      have HO := Lib.hid (And.intro ho (hFk'.trans ho))
                      clear ho hFk'
                      go_wp2
                      go_region_held3 (fun W => W.cell? ⟨X, 0, none⟩ = some (.int .i64 (n : Int)) ∧ W.cell? ⟨X, 1, none⟩ = some (.slice ga L gc) ∧ W.cell? ⟨X, 2, none⟩ = some (.slice (some ⟨q1, o1, none⟩) n gd) ∧ W.cell? ⟨X + 1, 0, none⟩ = some (.int .i64 (n : Int)) ∧ W.cell? ⟨X + 1, 1, none⟩ = some (.slice ha M hc) ∧ W.cell? ⟨X + 1, 2, none⟩ = some (.slice (some ⟨q2, o2, none⟩) n hd) ∧ Below W2.heap.size W2 W)
                        (first
                          | assumption
                          | exact hx0
                          | exact keepG (Nat.le_refl _) (by assumption) (by first | assumption | exact alloc_b (Below.refl _ _) _ | exact below_self_drewN _ _)
                          | exact keepG (Nat.le_refl _) hx0 (by first | assumption | exact alloc_b (Below.refl _ _) _ | exact below_self_drewN _ _))
                        (first
                          | (go_at_call 49; refine H6.out.1.mono ?_; rintro e w7 ⟨he, hb7⟩; obtain ⟨r, rfl, he⟩ := he; obtain ⟨gr, cr, rfl, -⟩ := he.form hq0; have H7 := Lib.hid (And.intro (And.intro he (Nat.le_trans hbW2.size H6.out.2.size)) (below_two H6.out.2 hb7)))
                          | (refine step_appC ?_ (.tmp 103) (.tmp 105) 40 ?_ i3 Tryz.underlying40 I3.out.1 I3.out.2.1 I3.out.2.2.1 I3.out.2.2.2 W2.heap.size (k : Int) (.slice pa j j) (nts p) ?_ none W2 hOC ?_ ?_ hpl9 (Nat.le_refl _) ?_
                             rfl
                             rfl
                             rfl
                             first | exact alloc_b (Below.refl _ _) _ | exact alloc_b (below_self_drewN _ _) _
                             exact ⟨_, rfl, by simp⟩
                             intro v' w6 row' hA hgr
                             obtain ⟨wx, hxx, hA⟩ := hA
                             have hb6 : Below W2.heap.size W2 w6 := below_two hxx (below_of_grown hA.2.1)
                             have hb61 : Below W1.heap.size W1 w6 := below_two hbW2 hb6
                             have hO6 := try_l3 hA.1
                             obtain ⟨pa', pc', rfl⟩ := hO6.form
                             have hE6 := IH.out (p ++ [k]) pa' _ pc' w6 (by rw [nts_len]) (by rw [nts_len]; have := HP.out.2.1; have := HP.out.1; simp; omega) (try_l2 HP.out.2.2.1 hkn) (H.out.1.below hb61) (H.out.2.1.below hb61) (H.out.2.2.1.below hb61) (H.out.2.2.2.1.below hb61) (H.out.2.2.2.2.1.below hb61) (hO6.ints (by rw [nts_len]; simp; have := HP.out.1; omega)) hO6.ext.2.1 hO6.ext.2.2.1 hO6.ext.2.2.2
                             rw [HO.out.1] at hE6
                             have H6 := Lib.hid (And.intro hE6 hb6)
                             clear hE6 hO6 hA hxx hgr hb61))
                      all_goals go_wp2
                      all_goals go_ret
                      all_goals rw [HN.out.2 q HO.out.2]
                      all_goals exact ⟨⟨_, rfl, H7.out.1.1.mono (Nat.le_trans H.out.2.2.2.2.2.2.size H7.out.1.2)⟩, below_two H.out.2.2.2.2.2.2 (below_two hbW2 H7.out.2)⟩
            · have hce : (c1 != c2) = true := by simpa using hcol
              rw [hce]
              have hno : FF k = none := by
                rw [HFF.out]
                have : okS (adj eg) (adj eh) cg ch p k = false := by
                  unfold okS
                  rw [HP.out.1, HMay.out.2.1, HMay.out.2.2]
                  simp [hcol]
                simp [this]
              have HN2 := Lib.hid (HN.out.1 hno)
              clear hno hcol hce
              go_wp2
              exact ⟨⟨k + 1, by omega, by go_num, HR.out.1.trans (below_self_drewN _ _), HN2.out⟩, by simp [intOf]; omega⟩
        · obtain ⟨q, hq, hqk⟩ : ∃ q, fs[i]? = some q ∧ q ≠ k := by
            unfold mayF at hmay
            cases hf : fs[i]? with
            | none => rw [hf] at hmay; simp at hmay
            | some q => rw [hf] at hmay; exact ⟨q, rfl, by simpa using hmay⟩
          rw [hq] at e3
          simp only at e3
          have g1 : decide ((0 : Int) ≤ (q : Int)) = true := decide_eq_true (by omega)
          have g2 : ((q : Int) != (k : Int)) = true := by simp; omega
          have hno : FF k = none := by rw [HFF.out]; simp [hmay]
          have HN2 := Lib.hid (HN.out.1 hno)
          clear hno hmay hq hc1 hc2
          go_wp2
          go_quiet (fail)
          go_wp2
          exact ⟨⟨k + 1, by omega, by go_num, HR.out.1.trans (below_self_drewN _ _), HN2.out⟩, by simp [intOf]; omega⟩
      · obtain rfl : k = n := by omega
        have hno : refF (adj eg) (adj eh) cg ch k fs (f + 1) p = none := by rw [HR.out.2]; simp
        have HNo := Lib.hid hno
        clear hno
        go_wp2
        go_ret
        rw [HNo.out]
        exact ⟨rfl, below_two H.out.2.2.2.2.2.2 HR.out.1⟩
end Go.Proofs.YtjjjohmppehejaaGreat
