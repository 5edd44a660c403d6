/- grouped by a comparison that may rewrite one block: at most twelve points. -/
import Derived.Test.YtlnikgcanimggaaGreatGrouped
import Derived.Test.YtlnikgcanimggaaGreatPdqAll
set_option linter.unusedSimpArgs false
set_option linter.unusedVariables false
namespace Go.Proofs.YtlnikgcanimggaaGreat
open Go.RowKit Go.Sort Go.Shelf Plain

/-- Inv hangs on the block F alone. -/
def Stable (F : Nat) (Inv : World → Prop) : Prop := ∀ (W W' : World) row, W.grownBy W' row → row ≠ some F → Inv W → Inv W'

/-- Where the last cell is about to take one more point. -/
structure PhM (F : Nat) (R : Nat → List Int) (s : List Nat) (j p : Nat) (w2 w : World) (go cap : Nat) (P : List (List Nat)) (c : List Nat) (cs0 : List Value) (al : Option Addr) (cl Kl : Nat) : Prop where
  go_le : w2.heap.size ≤ go
  grp : grpTo R s (j + 1) = P ++ [c ++ [p]]
  own7 : Own w w2.heap.size (.slice (some ⟨go, 0, none⟩) (cs0.length + 1) cap) 24 (cs0 ++ [.slice al c.length cl])
  ownl : Own w Kl (.slice al c.length cl) 3 (nums c)
  cells : Cellsof w w2.heap.size cs0 P
  lt : ∀ uv ∈ cs0, ∀ g, uv.ownBlock = some g → g < Kl
  k1 : w2.heap.size ≤ Kl
  k2 : Kl ≤ w.heap.size
  bel : w2.grownBy w (some F)
  FD : F < w2.heap.size
section
variable {F : Nat} {R : Nat → List Int} {s : List Nat} {j p : Nat} {w2 w w' : World} {go cap : Nat} {P : List (List Nat)} {c : List Nat} {cs0 : List Value} {al : Option Addr} {cl Kl : Nat}
theorem PhM.last (h : PhM F R s j p w2 w go cap P c cs0 al cl Kl) :
    w.cell? ⟨go, cs0.length, none⟩ = some (.slice al c.length cl) := by
  rw [h.own7.cell cs0.length (by simp), List.getElem?_append_right (Nat.le_refl _), Nat.sub_self]; rfl
theorem PhM.mid (h : PhM F R s j p w2 w go cap P c cs0 al cl Kl)
    (h3 : w.grownBy w' (Value.slice al c.length cl).ownBlock) : w'.cell? ⟨go, cs0.length, none⟩ = some (.slice al c.length cl) ∧ w'.frozen? ⟨go, cs0.length, none⟩ = false := by
  have h7 := h.own7.kept h3 (h.own7.ne_type h.ownl (by decide))
  refine ⟨?_, h7.frozen _⟩
  rw [h7.cell cs0.length (by simp), List.getElem?_append_right (Nat.le_refl _), Nat.sub_self]; rfl
theorem PhM.row (h : PhM F R s j p w2 w go cap P c cs0 al cl Kl) : ∀ g, (Value.slice al c.length cl).ownBlock = some g → Kl ≤ g := fun g hg => by
  rcases h.ownl.blk with e | ⟨g9, _, e, hB9, _⟩
  · rw [e] at hg; cases hg
  · rw [e] at hg; cases hg; exact hB9
theorem PhM.close (h : PhM F R s j p w2 w go cap P c cs0 al cl Kl) {Inv : World → Prop} (hst : Stable F Inv) (hi : Inv w)
    {v : Value} (h2 : Own w' Kl v 3 (nums c ++ [.int .i64 (p : Int)])) (h3 : w.grownBy w' (Value.slice al c.length cl).ownBlock) :
    Own (w'.setCell ⟨go, cs0.length, none⟩ v) w2.heap.size (.slice (some ⟨go, 0, none⟩) (cs0.length + 1) cap) 24 (cs0 ++ [v]) ∧ Grp (w'.setCell ⟨go, cs0.length, none⟩ v) w2.heap.size (cs0 ++ [v]) (grpTo R s (j + 1)) ∧
      w2.grownBy (w'.setCell ⟨go, cs0.length, none⟩ v) (some F) ∧ Inv (w'.setCell ⟨go, cs0.length, none⟩ v) := by
  have h7 := h.own7.kept h3 (h.own7.ne_type h.ownl (by decide))
  have hput := h7.put cs0.length v
  have hset : (cs0 ++ [Value.slice al c.length cl]).set cs0.length v = cs0 ++ [v] := by simp
  rw [hset] at hput
  have hown := h.row
  have hk1 := h.k1
  have hk2 := h.k2
  have hFD := h.FD
  have hgp := grown_put (w := w') (g := go) cs0.length v
  refine ⟨hput, ?_, ?_, ?_⟩
  · rw [h.grp]
    refine .inr ⟨P, c ++ [p], cs0, v, Kl, rfl, rfl, h.k1, ?_, ?_, h.lt, ?_⟩
    · have := h3.size; simp [World.setCell]; omega
    · have hca : Cellsof w' w2.heap.size cs0 P := ⟨h.cells.1, fun i u xs hu hx => (h.cells.2 i u xs hu hx).kept h3 (by
        cases e9 : (Value.slice al c.length cl).ownBlock with
        | none => cases u.ownBlock <;> simp
        | some g9 =>
          right; intro hu9
          have := h.lt u (List.mem_of_getElem? hu) g9 hu9
          have := hown g9 e9
          omega)⟩
      exact hca.kept hgp (fun u xs h => h.ne_type h7 (by decide))
    · have h8 := h2.kept hgp (h2.ne_type h7 (by decide))
      simpa [nums] using h8
  · exact grown_to (grown_to h.bel h3 (fun q hq => by have := hown q hq; omega)) hgp (fun q hq => by cases hq; exact h.go_le)
  · refine hst _ _ _ hgp (by intro e; have e2 : go = F := Option.some.inj e; have := h.go_le; omega) (hst _ _ _ h3 (fun e => by have := hown F e; omega) hi)
theorem PhM.new (hF : F < w2.heap.size) {wr w4 : World} {cs : List Value} {v7 : Value} (hnew : grpTo R s (j + 1) = grpTo R s j ++ [[] ++ [p]]) (ho : Own wr w2.heap.size v7 24 cs) (hgr : Grp wr w2.heap.size cs (grpTo R s j))
    (hb : w2.grownBy wr (some F)) (h2 : Own w4 w2.heap.size (.slice (some ⟨go, 0, none⟩) (cs.length + 1) cap) 24 (cs ++ [.slice none 0 0])) (h3 : wr.grownBy w4 v7.ownBlock) (h5 : w2.heap.size ≤ go) {Inv : World → Prop} (hst : Stable F Inv) (hi : Inv wr) :
    PhM F R s j p w2 w4 go cap (grpTo R s j) [] cs none 0 w4.heap.size ∧ Inv w4 := by
  have hc4 : Cellsof w4 w2.heap.size cs (grpTo R s j) := hgr.cells.kept h3 (fun u xs h => h.ne_type ho (by decide))
  have hrow : ∀ q, v7.ownBlock = some q → w2.heap.size ≤ q := fun q hq => by
    rcases ho.blk with e | ⟨g9, _, e, hB9, _⟩
    · rw [e] at hq; cases hq
    · rw [e] at hq; cases hq; exact hB9
  exact ⟨⟨h5, hnew, h2, Own.nil _ _ _, hc4, hc4.lt, Nat.le_trans hb.size h3.size, Nat.le_refl _, grown_to hb h3 hrow, hF⟩, hst _ _ _ h3 (fun e => by have := hrow F e; omega) hi⟩
theorem PhM.old (hF : F < w2.heap.size) {wr : World} {cs : List Value} {v7 : Value} (hj : grpTo R s j ≠ []) (hsame : ∀ P c, grpTo R s j = P ++ [c] → grpTo R s (j + 1) = P ++ [c ++ [p]]) (ho : Own wr w2.heap.size v7 24 cs) (hgr : Grp wr w2.heap.size cs (grpTo R s j))
    (hb : w2.grownBy wr (some F)) : ∃ go cap P c cs0 al cl Kl, v7 = .slice (some ⟨go, 0, none⟩) (cs0.length + 1) cap ∧ cs.length = cs0.length + 1 ∧ PhM F R s j p w2 wr go cap P c cs0 al cl Kl ∧ c.length ≤ j := by
  rcases hgr with ⟨_, h⟩ | ⟨P, c, cs0, vl, Kl, h1, rfl, hK, hKl, hc, hlt, hol⟩
  · exact absurd h hj
  · obtain ⟨go, cap, rfl, hgo, _, _, _⟩ := ho.form (by simp)
    have hlc : (nums c).length = c.length := by simp [nums]
    have hcm : (nums c).length ≤ maxLen := by
      rcases Nat.eq_zero_or_pos (nums c).length with h0 | h0
      · omega
      · obtain ⟨_, _, _, _, _, h5, h6⟩ := hol.form h0
        omega
    obtain ⟨al, cl, rfl, _⟩ := hol.row hcm
    rw [hlc] at hol ho ⊢
    have hle : (cs0 ++ [Value.slice al c.length cl]).length = cs0.length + 1 := by simp
    rw [hle] at ho ⊢
    exact ⟨go, cap, P, c, cs0, al, cl, Kl, rfl, rfl, ⟨hgo, hsame P c h1, ho, hol, hc, hlt, hK, hKl, hb, hF⟩, grpTo_cell_len R s j c (by rw [h1]; simp)⟩
end

set_option maxRecDepth 100000 in
set_option maxHeartbeats 2000000 in
theorem groupedM_calls (n : Nat) (hn : n ≤ 64) (R : Nat → List Int) (g : Nat) (cb : Array Value) (cf : Nat → Nat → Int) (F : Nat) (Inv : World → Prop) (w : World) (hok : CmpMut w g cb n cf F Inv) (hinv : Inv w)
    (hcf : ∀ x y, x < n → y < n → (cf x y < 0 ↔ cmpL (R x) (R y) < 0) ∧ (cf x y = 0 ↔ R x = R y)) :
    Calls Tryz.prog 36 #[.int .i64 n, .func (.func g) #[] cb] w fun e w' => ∃ a c P, e = .returned (.slice a (P.map (·.map Int.ofNat)).length c) ∧ Rows w' a (P.map (·.map Int.ofNat)) ∧ IsPart R (· < n) P ∧ w.grownBy w' (some F) := by
  obtain ⟨i3, hi3, hz3, hs3, hb3⟩ := info_parts Tryz.info3
  obtain ⟨i29, hi29, hz29, hs29, hb29⟩ := info_parts Tryz.info24
  have I3 := Lib.hid (And.intro hi3 (And.intro hz3 (And.intro hs3 hb3)))
  have I29 := Lib.hid (And.intro hi29 (And.intro hz29 (And.intro hs29 hb29)))
  clear hi3 hz3 hs3 hb3 hi29 hz29 hs29 hb29
  have hbx : Own (w.alloc (.cells #[.func (.func g) #[] cb] 73)) w.heap.size (.slice (some ⟨w.heap.size, 0, none⟩) 1 1) 73 [.func (.func g) #[] cb] := Own.new 73 [.func (.func g) #[] cb] (Nat.le_refl _) (by unfold maxLen; simp)
  have hga : w.grownBy (w.alloc (.cells #[.func (.func g) #[] cb] 73)) none := grown_alloc w _ none
  have hst : Stable F Inv := hok.stable
  have hFD := hok.lt
  have H0 := Lib.hid (And.intro hok (And.intro hcf (And.intro hbx (And.intro (grown_alloc w (.cells #[.func (.func g) #[] cb] 73) (some F)) (And.intro (hst _ _ none hga (by simp) hinv) hst)))))
  clear hok hcf hbx hga hst hinv
  obtain ⟨D, hD⟩ : ∃ D, D = w.heap.size := ⟨_, rfl⟩
  rw [← hD] at H0 hFD
  have HD := Lib.hid hD
  go_enter Tryz.func36, Tryz.ntmps36
  go_wp2
  rw [← hD]
  clear hD
  go_loopw [5, 11] (fun v i wr => ∃ k : Nat, k ≤ n ∧ i = .int .i64 k ∧ Own wr D v 3 (nums (List.range k)) ∧ Own wr D (.slice (some ⟨D, 0, none⟩) 1 1) 73 [.func (.func g) #[] cb] ∧ w.grownBy wr (some F) ∧ Inv wr) (fun _ i _ => n - (intOf i).toNat)
  case atStart => exact ⟨0, by omega, rfl, Own.nil _ _ _, H0.out.2.2.1, H0.out.2.2.2.1, H0.out.2.2.2.2.1⟩
  case round =>
    obtain ⟨k, hk, rfl, ho, hbx, hbl, hinv⟩ := hrel
    have hDw : D ≤ wr.heap.size := by have := hbl.size; have := HD.out; omega
    by_cases hlt : k < n
    · have H := Lib.hid (And.intro ho (And.intro hbx (And.intro hbl (And.intro hDw hinv))))
      clear ho hbx hbl hDw hinv
      go_wp2_with (at_builtin; refine app1 rfl (.tmp 14) (.tmp 16) 24 3 rfl i3 (.int .i64 0) 8 Tryz.underlying24 I3.out.1 I3.out.2.1 I3.out.2.2.1 I3.out.2.2.2 rfl (by omega) D (.int .i64 k) u5 (nums (List.range k)) rfl H.out.1 rfl rfl (by simp [nums]; omega) H.out.2.2.2.1 ?_; intro v' w' h2 h3 h4; have H9 := Lib.hid (And.intro h2 h3); clear h2 h3 h4)
      have hrow : ∀ q, u5.ownBlock = some q → D ≤ q := fun q hq => by
        rcases H.out.1.blk with e | ⟨g', _, e, hB, _⟩
        · rw [e] at hq; cases hq
        · rw [e] at hq; cases hq; exact hB
      refine ⟨⟨k + 1, by omega, by go_num, ?_, ?_, grown_to H.out.2.2.1 H9.out.2 (fun q hq => by rw [← HD.out]; exact hrow q hq), H0.out.2.2.2.2.2 _ _ _ H9.out.2 (fun e => by have := hrow F e; omega) H.out.2.2.2.2⟩, by simp [intOf]; omega⟩
      · rw [List.range_succ]
        have := H9.out.1
        simpa [nums] using this
      · exact H.out.2.1.kept H9.out.2 (H.out.2.1.ne_type H.out.1 (by decide))
    · obtain rfl : k = n := by omega
      obtain ⟨a5, c5, rfl, _⟩ := ho.row (by simp [nums]; unfold maxLen; omega)
      have hl5 : (nums (List.range k)).length = k := by simp [nums]
      rw [hl5] at ho ⊢
      have hsort := sortR_calls k hn R g cb cf F Inv w wr H0.out.1 H0.out.2.1 D HD.out a5 c5 ho hbx hbl hinv
      have Hs := Lib.hid hsort
      clear hsort ho hbx hbl hDw hl5 hinv
      go_wp2_with (go_at_call 56; refine Hs.out.mono ?_; rintro e w2 ⟨rfl, s, hp, hs, ho, hbx, hbl, hinv⟩; have H2 := Lib.hid (And.intro hp (And.intro hs (And.intro ho (And.intro hbx (And.intro hbl hinv))))); clear hp hs ho hbx hbl hinv)
      have hsl : s.length = k := by rw [H2.out.1.length_eq]; simp
      have Hsl := Lib.hid hsl
      have hDw2 : D < w2.heap.size := by
        obtain ⟨g9, e9, _, h9, _⟩ := Own.at_form H2.out.2.2.2.1 (by omega)
        cases e9; exact h9
      have hF2 : F < w2.heap.size := by omega
      clear hsl
      go_loopw [7, 24] (fun v i wr => ∃ (j : Nat) (cs : List Value), j ≤ k ∧ i = .int .i64 j ∧ Own wr w2.heap.size v 24 cs ∧ Grp wr w2.heap.size cs (grpTo R s j) ∧ w2.grownBy wr (some F) ∧ Inv wr) (fun _ i _ => k - (intOf i).toNat)
      case atStart => exact ⟨0, [], by omega, rfl, Own.nil _ _ _, .inl ⟨rfl, rfl⟩, World.grownBy.refl _ _, H2.out.2.2.2.2.2⟩
      case round =>
        obtain ⟨j, cs, hj, rfl, ho, hgr, hb, hinv⟩ := hrel
        have hKw : w2.heap.size ≤ wr.heap.size := hb.size
        have hcl := hgr.len
        have hgl := grpTo_len (R := R) s j
        by_cases hlt2 : j < k
        · have hpj : s[j]?.getD 0 < k := by
            have hm : s[j]?.getD 0 ∈ s := by rw [List.getElem?_eq_getElem (by rw [Hsl.out]; exact hlt2)]; exact List.getElem_mem _
            have := H2.out.1.mem_iff.1 hm
            exact List.mem_range.1 this
          obtain ⟨p, hp⟩ : ∃ p, s[j]?.getD 0 = p := ⟨_, rfl⟩
          rw [hp] at hpj
          obtain ⟨g5, rfl, hg5D, hg5, -⟩ := H2.out.2.2.1.at_form (by omega)
          have hcj : w2.cell? ⟨g5, j, none⟩ = some (.int .i64 (p : Int)) := by
            rw [H2.out.2.2.1.cell j (by simp [nums, Hsl.out]; omega)]
            simp only [nums, List.getElem?_map]
            rw [List.getElem?_eq_getElem (by rw [Hsl.out]; exact hlt2)] at hp ⊢
            simp at hp; simp [hp]
          have hkeep : ∀ o, wr.cell? ⟨g5, o, none⟩ = w2.cell? ⟨g5, o, none⟩ := fun o => World.cell?_of_block (hb.block g5 hg5 (by intro e; have e2 : g5 = F := Option.some.inj e; omega))
          have hcjr : wr.cell? ⟨g5, j, none⟩ = some (.int .i64 (p : Int)) := by rw [hkeep]; exact hcj
          have Hp := Lib.hid hp
          have Hcl := Lib.hid hcl
          have hcs64 : cs.length < 1099511627776 := by omega
          clear hp hcj hcl
          by_cases hj0 : j = 0
          · subst hj0
            have hnew : grpTo R s (0 + 1) = grpTo R s 0 ++ [[] ++ [p]] := by rw [grpTo_new (.inl rfl), Hp.out]; rfl
            have H := Lib.hid (And.intro ho (And.intro hgr (And.intro hb (And.intro hKw (And.intro hnew (And.intro hcs64 hinv))))))
            clear ho hgr hb hKw hnew hinv hkeep
            go_wp2
            go_quiet (fail)
            go_wp2_with (first | (at_builtin; refine app1f rfl (.tmp 42) (.tmp 43) 25 24 rfl i29 (.slice none 0 0) 24 Tryz.underlying25 I29.out.1 I29.out.2.1 I29.out.2.2.1 I29.out.2.2.2 rfl (by omega) w2.heap.size (.slice none 0 0) u7 cs cs.length rfl (H.out.1.drewN _) rfl rfl rfl H.out.2.2.2.2.2.1 H.out.2.2.2.1 ?_; intro go cap9 w4 h2 h3 h4 h5 h6; have HB := Lib.hid (PhM.new (p := p) hF2 H.out.2.2.2.2.1 (H.out.1.drewN _) (H.out.2.1.kept (grown_drewN wr _ none) (fun u B xs _ => by cases u.ownBlock <;> simp)) (H.out.2.2.1.trans (grown_drewN wr _ _)) h2 h3 h5 H0.out.2.2.2.2.2 (H0.out.2.2.2.2.2 _ _ none (grown_drewN wr _ none) (by simp) H.out.2.2.2.2.2.2)); have hcB := HB.out.1.last; have hgB : w2.heap.size ≤ w4.heap.size := HB.out.1.k1; clear h2 h3 h4 h5) | (at_builtin; refine app1f rfl (.tmp 54) (.tmp 56) 24 3 rfl i3 (.int .i64 0) 8 Tryz.underlying24 I3.out.1 I3.out.2.1 I3.out.2.2.1 I3.out.2.2.2 rfl (by omega) w4.heap.size (.int .i64 (p : Int)) (.slice none 0 0) (nums []) 0 rfl HB.out.1.ownl rfl rfl rfl (by omega) (Nat.le_refl _) ?_; intro G cap5 w5 h2 h3 h4 _ _; obtain ⟨hc7, hf7⟩ := HB.out.1.mid h3; have H9 := Lib.hid (And.intro h2 h3); clear h2 h3 h4))
            obtain ⟨r1, r2, r3, r4⟩ := HB.out.1.close H0.out.2.2.2.2.2 HB.out.2 H9.out.1 H9.out.2
            refine ⟨⟨1, _, by omega, by go_num, r1, r2, r3, r4⟩, by simp [intOf]; omega⟩
          · obtain ⟨q, hq⟩ : ∃ q, s[j - 1]?.getD 0 = q := ⟨_, rfl⟩
            have hqk : q < k := by
              have hm : s[j - 1]?.getD 0 ∈ s := by rw [List.getElem?_eq_getElem (by rw [Hsl.out]; omega)]; exact List.getElem_mem _
              rw [hq] at hm
              exact List.mem_range.1 (H2.out.1.mem_iff.1 hm)
            have hcq : wr.cell? ⟨g5, j - 1, none⟩ = some (.int .i64 (q : Int)) := by
              rw [hkeep, H2.out.2.2.1.cell (j - 1) (by simp [nums, Hsl.out]; omega)]
              simp only [nums, List.getElem?_map]
              rw [List.getElem?_eq_getElem (by rw [Hsl.out]; omega)] at hq ⊢
              simp at hq; simp [hq]
            have hbx : wr.cell? ⟨D, 0, none⟩ = some (.func (.func g) #[] cb) := by
              rw [World.cell?_of_block (hb.block D hDw2 (by intro e; have e2 : D = F := Option.some.inj e; omega)), H2.out.2.2.2.1.cell 0 (by simp)]; rfl
            have hbD : w.grownBy wr (some F) := grown_new H2.out.2.2.2.2.1 hb (fun g hg => .inr (by cases hg; rfl))
            have hcall : ∀ m, Calls Tryz.prog g (#[.int .i64 (q : Int), .int .i64 (p : Int)] ++ cb) (wr.drewN m) fun e w' => e = .returned (.int .i64 (cf q p)) ∧ (wr.drewN m).grownBy w' (some F) ∧ Inv w' := fun m => H0.out.1.calls _ (hbD.trans (grown_drewN wr m _)) (H0.out.2.2.2.2.2 _ _ none (grown_drewN wr m none) (by simp) hinv) q p hqk hpj
            have hpc := (H0.out.2.1 q p hqk hpj).2
            obtain ⟨c, hc⟩ : ∃ c, cf q p = c := ⟨_, rfl⟩
            rw [hc] at hpc hcall
            have hw1 : IntKind.i64.wrap ((j : Int) - 1) = (j : Int) - 1 := IntWalk.i64_in _ (by omega)
            have hb1 : (1 : Int) ≤ (j : Int) := by omega
            have hb2 : (j : Int) - 1 < (k : Int) := by omega
            have hn1 : ((j : Int) - 1).toNat = j - 1 := by omega
            have hj1 : ((j : Int) == 0) = false := by simp; omega
            have Hc := Lib.hid (And.intro hcall (And.intro hpc (And.intro hq hc)))
            have Hj := Lib.hid hj0
            clear hcall hpc hq hc hj0 hbD hkeep
            have hne3 : ∀ (w3 : World), Inv w3 → ∀ (u : Value) (B : Nat) (xs : List Value), Own w3 B u 3 xs → u.ownBlock ≠ some F := fun w3 hi u B xs hu e => by
              rcases hu.blk with e9 | ⟨g9, cur, e9, _, _, hh⟩
              · rw [e9] at e; cases e
              · rw [e9] at e; have e2 : g9 = F := Option.some.inj e; subst e2; exact H0.out.1.kind w3 hi _ _ hh
            have Hne3 := Lib.hid hne3
            clear hne3
            by_cases hc0 : c = 0
            · subst hc0
              have hsame : ∀ P c, grpTo R s j = P ++ [c] → grpTo R s (j + 1) = P ++ [c ++ [p]] := by
                intro P c e
                rw [grpTo_same ?_ e, Hp.out]
                rw [Hp.out, Hc.out.2.2.1]
                exact fun h => h.elim Hj.out (fun h => h (Hc.out.2.1.1 rfl))
              have H := Lib.hid (And.intro ho (And.intro hgr (And.intro hb (And.intro hKw (And.intro hcs64 (And.intro hsame hinv))))))
              clear ho hgr hb hKw hsame hinv
              go_wp2
              go_still_tail 10, (by kernel_rfl)
              change wpList _ _ _ _ _ (wr.drewN 1)
              have eg := H0.out.1.enters
              go_wp2_with fail
              clear eg
              refine (Hc.out.1 1).mono ?_
              rintro e w3 ⟨rfl, hw3, hi3⟩
              have hw3 : wr.grownBy w3 (some F) := (grown_drewN wr 1 _).trans hw3
              have hb3 : w2.grownBy w3 (some F) := grown_new H.out.2.2.1 hw3 (fun g hg => .inr (by cases hg; rfl))
              have ho3 := H.out.1.kept hw3 (by
                rcases H.out.1.blk with e | ⟨g9, _, e, hB9, _⟩
                · exact .inl e
                · right; rw [e]; intro h; cases h; omega)
              have hgr3 : Grp w3 w2.heap.size cs (grpTo R s j) := H.out.2.1.kept hw3 (fun u B xs hu => .inr (Hne3.out wr H.out.2.2.2.2.2.2 u B xs hu))
              obtain ⟨go, cap9, P, c, cs0, al, cl, Kl, rfl, hcs, hB, hcl⟩ := PhM.old (p := p) hF2 (grpTo_ne (Nat.pos_of_ne_zero Hj.out)) H.out.2.2.2.2.2.1 ho3 hgr3 hb3
              have hcs0 : cs0.length < 1099511627776 := by omega
              have HB := Lib.hid (And.intro hB hi3)
              have hcB := HB.out.1.last
              have hgB : w2.heap.size ≤ w3.heap.size := hb3.size
              have hK2 : Kl ≤ w3.heap.size := HB.out.1.k2
              clear hw3 hb3 ho3 hgr3 hB hcs hi3
              go_wp2_with (at_builtin; refine app1f rfl (.tmp 54) (.tmp 56) 24 3 rfl i3 (.int .i64 0) 8 Tryz.underlying24 I3.out.1 I3.out.2.1 I3.out.2.2.1 I3.out.2.2.2 rfl (by omega) Kl (.int .i64 (p : Int)) (.slice al c.length cl) (nums c) c.length rfl HB.out.1.ownl rfl rfl (by simp [nums]) (by omega) hK2 ?_; intro G cap5 w5 h2 h3 h4 _ _; obtain ⟨hc7, hf7⟩ := HB.out.1.mid h3; have H9 := Lib.hid (And.intro h2 h3); clear h2 h3 h4)
              obtain ⟨r1, r2, r3, r4⟩ := HB.out.1.close H0.out.2.2.2.2.2 HB.out.2 H9.out.1 H9.out.2
              refine ⟨⟨j + 1, _, by omega, by go_num, r1, r2, r3, r4⟩, by simp [intOf]; omega⟩
            · have hne : (c != 0) = true := by simpa using hc0
              have H := Lib.hid (And.intro ho (And.intro hgr (And.intro hb (And.intro hKw (And.intro hcs64 (And.intro hc0 hinv))))))
              clear ho hgr hb hKw hc0 hinv
              go_wp2
              go_still_tail 10, (by kernel_rfl)
              change wpList _ _ _ _ _ (wr.drewN 1)
              have eg := H0.out.1.enters
              go_wp2_with fail
              clear eg
              refine (Hc.out.1 1).mono ?_
              rintro e w3 ⟨rfl, hw3, hi3⟩
              have hw3 : wr.grownBy w3 (some F) := (grown_drewN wr 1 _).trans hw3
              have hnew : grpTo R s (j + 1) = grpTo R s j ++ [[] ++ [p]] := by
                rw [grpTo_new (.inr ?_), Hp.out]; · rfl
                rw [Hp.out, Hc.out.2.2.1]
                exact fun h => H.out.2.2.2.2.2.1 (Hc.out.2.1.2 h)
              have hb3 : w2.grownBy w3 (some F) := grown_new H.out.2.2.1 hw3 (fun g hg => .inr (by cases hg; rfl))
              have ho3 := H.out.1.kept hw3 (by
                rcases H.out.1.blk with e | ⟨g9, _, e, hB9, _⟩
                · exact .inl e
                · right; rw [e]; intro h; cases h; omega)
              have hgr3 : Grp w3 w2.heap.size cs (grpTo R s j) := H.out.2.1.kept hw3 (fun u B xs hu => .inr (Hne3.out wr H.out.2.2.2.2.2.2 u B xs hu))
              have H3 := Lib.hid (And.intro ho3 (And.intro hgr3 (And.intro hb3 (And.intro hb3.size (And.intro hnew (And.intro H.out.2.2.2.2.1 hi3))))))
              clear hw3 hnew hb3 ho3 hgr3 hi3
              go_wp2_with (first | (at_builtin; refine app1f rfl (.tmp 42) (.tmp 43) 25 24 rfl i29 (.slice none 0 0) 24 Tryz.underlying25 I29.out.1 I29.out.2.1 I29.out.2.2.1 I29.out.2.2.2 rfl (by omega) w2.heap.size (.slice none 0 0) u7 cs cs.length rfl H3.out.1 rfl rfl rfl H3.out.2.2.2.2.2.1 H3.out.2.2.2.1 ?_; intro go cap9 w4 h2 h3 h4 h5 h6; have HB := Lib.hid (PhM.new (p := p) hF2 H3.out.2.2.2.2.1 H3.out.1 H3.out.2.1 H3.out.2.2.1 h2 h3 h5 H0.out.2.2.2.2.2 H3.out.2.2.2.2.2.2); have hcB := HB.out.1.last; have hgB : w2.heap.size ≤ w4.heap.size := HB.out.1.k1; clear h2 h3 h4 h5) | (at_builtin; refine app1f rfl (.tmp 54) (.tmp 56) 24 3 rfl i3 (.int .i64 0) 8 Tryz.underlying24 I3.out.1 I3.out.2.1 I3.out.2.2.1 I3.out.2.2.2 rfl (by omega) w4.heap.size (.int .i64 (p : Int)) (.slice none 0 0) (nums []) 0 rfl HB.out.1.ownl rfl rfl rfl (by omega) (Nat.le_refl _) ?_; intro G cap5 w5 h2 h3 h4 _ _; obtain ⟨hc7, hf7⟩ := HB.out.1.mid h3; have H9 := Lib.hid (And.intro h2 h3); clear h2 h3 h4))
              obtain ⟨r1, r2, r3, r4⟩ := HB.out.1.close H0.out.2.2.2.2.2 HB.out.2 H9.out.1 H9.out.2
              refine ⟨⟨j + 1, _, by omega, by go_num, r1, r2, r3, r4⟩, by simp [intOf]; omega⟩
        · obtain rfl : j = k := by omega
          have hpart := grpTo_part (R := R) H2.out.1 H2.out.2.1
          rw [Hsl.out] at hpart
          obtain ⟨a7, c7, rfl, hr⟩ := hgr.cells.rows ho (by unfold maxLen; omega) (fun xs hx => by have := grpTo_cell_len R s j xs hx; unfold maxLen; omega)
          have hbD : w.grownBy wr (some F) := grown_new H2.out.2.2.2.2.1 hb (fun g hg => .inr (by cases hg; rfl))
          have H := Lib.hid (And.intro hpart (And.intro hr hbD))
          clear hpart hr hbD ho hgr hb hinv
          go_wp2
          go_ret
          exact ⟨a7, c7, grpTo R s j, by rw [List.length_map]; rfl, H.out.2.1, H.out.1, H.out.2.2⟩
end Go.Proofs.YtlnikgcanimggaaGreat
