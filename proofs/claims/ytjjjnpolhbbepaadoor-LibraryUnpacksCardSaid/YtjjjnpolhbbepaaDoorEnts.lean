/- Lists of entries in memory; the check of a library. -/
import Derived.Test.YtjjjnpolhbbepaaDoorChecks
import Derived.Test.YtjjjnpolhbbepaaDoorNames
set_option linter.unusedSimpArgs false
set_option linter.unusedVariables false
namespace Go.Proofs.YtjjjnpolhbbepaaDoor
open Go.RowKit
open Plain
/-- A slice of entries. -/
structure Ents (w : World) (a : Option Addr) (es : List Ent) : Prop where
  len : es.length ≤ 9223372036854775807
  name : ∀ e ∈ es, e.name.size ≤ 9223372036854775807
  at_ : ∀ i e, es[i]? = some e → ∃ b o g c, a = some ⟨b, o, none⟩ ∧ b < w.heap.size ∧ w.cell? ⟨b, o + i * 3, none⟩ = some (.string e.name) ∧ w.cell? ⟨b, o + i * 3 + 1, none⟩ = some (.int .i64 e.deg) ∧
    w.cell? ⟨b, o + i * 3 + 2, none⟩ = some (.slice g e.gens.length c) ∧ Rows w g e.gens
theorem Ents.below {w w' : World} {a : Option Addr} {es : List Ent} (h : Ents w a es) (hb : Below w.heap.size w w') : Ents w' a es :=
  ⟨h.len, h.name, fun i e he => by
    obtain ⟨b, o, g, c, ha, hl, h1, h2, h3, h4⟩ := h.at_ i e he
    exact ⟨b, o, g, c, ha, Nat.lt_of_lt_of_le hl hb.size, (hb.cell (p := ⟨b, o + i * 3, none⟩) hl).trans h1, (hb.cell (p := ⟨b, o + i * 3 + 1, none⟩) hl).trans h2, (hb.cell (p := ⟨b, o + i * 3 + 2, none⟩) hl).trans h3, h4.below hb⟩⟩
def chkAt (l : List Ent) (k : Nat) : Int := chkFrom (match k with | 0 => none | j + 1 => (l[j]?).map (·.name)) (l.drop k)
theorem chkAt_name {l : List Ent} {k : Nat} {e : Ent} (he : l[k]? = some e) (h : okName (bytesOf e.name) = false) : chkAt l k = 17 := by
  obtain ⟨hk, rfl⟩ := List.getElem?_eq_some_iff.1 he
  unfold chkAt
  rw [List.drop_eq_getElem_cons hk, chkFrom, if_pos h]
theorem chkAt_order {l : List Ent} {k : Nat} {e d : Ent} (he : l[k + 1]? = some e) (hd : l[k]? = some d) (h : okName (bytesOf e.name) = true) (ho : leS e.name d.name = true) : chkAt l (k + 1) = 9 := by
  obtain ⟨hk, rfl⟩ := List.getElem?_eq_some_iff.1 he
  unfold chkAt
  rw [List.drop_eq_getElem_cons hk, chkFrom, if_neg (by simp [h])]
  simp only [hd, Option.map_some, Option.any_some]
  rw [if_pos ho]
def okLast (l : List Ent) (k : Nat) (e : Ent) : Prop := match k with | 0 => True | j + 1 => ∃ d, l[j]? = some d ∧ leS e.name d.name = false
theorem chkAt_group {l : List Ent} {k : Nat} {e : Ent} (he : l[k]? = some e) (h : okName (bytesOf e.name) = true) (ho : okLast l k e) (hz : chkGroup e.deg e.gens ≠ 0) : chkAt l k = chkGroup e.deg e.gens := by
  obtain ⟨hk, rfl⟩ := List.getElem?_eq_some_iff.1 he
  unfold chkAt
  rw [List.drop_eq_getElem_cons hk, chkFrom, if_neg (by simp [h])]
  cases k with
  | zero => simp only [Option.any_none]; rw [if_neg (by simp), if_pos hz]
  | succ j =>
    obtain ⟨d, hd, ho⟩ := ho
    simp only [hd, Option.map_some, Option.any_some]
    rw [if_neg (by simp [ho]), if_pos hz]
theorem chkAt_next {l : List Ent} {k : Nat} {e : Ent} (he : l[k]? = some e) (h : okName (bytesOf e.name) = true) (ho : okLast l k e) (hz : chkGroup e.deg e.gens = 0) : chkAt l k = chkAt l (k + 1) := by
  obtain ⟨hk, rfl⟩ := List.getElem?_eq_some_iff.1 he
  unfold chkAt
  rw [List.drop_eq_getElem_cons hk, chkFrom, if_neg (by simp [h])]
  cases k with
  | zero => simp only [Option.any_none]; rw [if_neg (by simp), if_neg (by simp [hz])]; simp [List.getElem?_eq_getElem hk]
  | succ j =>
    obtain ⟨d, hd, ho⟩ := ho
    simp only [hd, Option.map_some, Option.any_some]
    rw [if_neg (by simp [ho]), if_neg (by simp [hz])]; simp [List.getElem?_eq_getElem hk]
theorem chkAt_end {l : List Ent} {k : Nat} (hk : l.length ≤ k) : chkAt l k = 0 := by
  unfold chkAt
  rw [List.drop_of_length_le hk]; rfl
theorem run_leq (x y : ByteArray) (w : World) : (binOp BinOp.leq 9 (.string x) (.string y)).run Tryd.prog w = .ok (.bool (leS x y)) w := by
  simp [binOp, Op.stringOp, leS]
theorem box3 {w w2 : World} {a b c : Value} {T : TypeId} (h : Below (w.alloc (.cells #[a, b, c] T)).heap.size (w.alloc (.cells #[a, b, c] T)) w2) :
    w2.cell? ⟨w.heap.size, 0, none⟩ = some a ∧ w2.cell? ⟨w.heap.size, 1, none⟩ = some b ∧ w2.cell? ⟨w.heap.size, 2, none⟩ = some c ∧ w.heap.size < w2.heap.size := by
  have hlt : w.heap.size < (w.alloc (.cells #[a, b, c] T)).heap.size := by simp
  refine ⟨(h.cell (p := ⟨w.heap.size, 0, none⟩) hlt).trans (by simp), (h.cell (p := ⟨w.heap.size, 1, none⟩) hlt).trans (by simp), (h.cell (p := ⟨w.heap.size, 2, none⟩) hlt).trans (by simp), Nat.lt_of_lt_of_le hlt h.size⟩
set_option maxRecDepth 100000 in
set_option maxHeartbeats 2000000 in
theorem check_calls {w : World} {a : Option Addr} {c : Nat} {l : List Ent} (h : Ents w a l) :
    Calls Tryd.prog 11 #[.slice a l.length c] w fun e w' => e = .returned (.int .i64 (chk l)) ∧ Below w.heap.size w w' := by
  have hm := h.len
  have H := Lib.hid h
  obtain ⟨n, hn⟩ : ∃ n, l.length = n := ⟨_, rfl⟩
  have hcp : chk l = if 200 < n then 4 else chkAt l 0 := by unfold chk chkAt; rw [hn]; rfl
  rw [hcp]
  rw [hn] at hm ⊢
  have Hn := Lib.hid hn
  clear h hn hcp
  by_cases h3 : 200 < n
  · rw [if_pos h3]
    go_enter Tryd.func11, Tryd.ntmps11
    go_wp2
    go_ret
    exact ⟨rfl, Below.refl _ _⟩
  rw [if_neg h3]
  go_enter Tryd.func11, Tryd.ntmps11
  go_wp2
  go_loopw [11] (fun i wr => ∃ k : Nat, k ≤ n ∧ i = .int .i64 (k : Int) ∧ Below w.heap.size w wr ∧ chkAt l 0 = chkAt l k) (fun i _ => n - (intOf i).toNat)
  case atStart => exact ⟨0, Nat.zero_le _, rfl, Below.refl _ _, rfl⟩
  case round =>
    obtain ⟨k, hk, rfl, hb, hf⟩ := hrel
    by_cases hlt : k < n
    · have hkn : k < l.length := by rw [Hn.out]; exact hlt
      obtain ⟨e, he⟩ : ∃ e, l[k]? = some e := ⟨_, List.getElem?_eq_getElem hkn⟩
      obtain ⟨B, o, g, cg, rfl, hBl, c1, c2, c3, hr⟩ := H.out.at_ k e he
      replace c1 := (hb.cell (p := ⟨B, o + k * 3, none⟩) hBl).trans c1
      replace c2 := (hb.cell (p := ⟨B, o + k * 3 + 1, none⟩) hBl).trans c2
      replace c3 := (hb.cell (p := ⟨B, o + k * 3 + 2, none⟩) hBl).trans c3
      have hBr := Nat.lt_of_lt_of_le hBl hb.size
      have hnm := fun w => name_calls e.name w (H.out.name e (List.mem_of_getElem? he))
      have hgl := hr.len
      obtain ⟨m, hm2⟩ : ∃ m, e.gens.length = m := ⟨_, rfl⟩
      obtain ⟨x, hxe⟩ : ∃ x, x = wr.alloc (.cells #[.string e.name, .int .i64 e.deg, .slice g m cg] 46) := ⟨_, rfl⟩
      have hxb : Below w.heap.size w x := by rw [hxe]; exact hb.alloc hb.size _
      have hgr := fun (w1 : World) (hb1 : Below w.heap.size w w1) => group_calls (c := cg) e.deg (hr.below hb1)
      rw [hm2] at c3 hgl
      rw [hm2] at hgr
      cases hok : okName (bytesOf e.name)
      · have hx := hf.trans (chkAt_name he hok)
        rw [hok] at hnm
        have HN := Lib.hid hnm
        have H2 := Lib.hid (And.intro hb hx)
        clear hnm hgr hb hf hx he hok hr hxe hxb hm2
        go_wp2_with (go_at_call 31; refine (HN.out _).mono ?_; rintro e w2 ⟨rfl, hb2⟩; have HB2 := Lib.hid hb2; clear hb2)
        go_ret
        exact ⟨ret_int H2.out.2.symm, (H2.out.1.alloc H2.out.1.size _).trans (HB2.out.mono (by have := H2.out.1.size; simp; omega))⟩
      · rw [hok] at hnm
        rcases Nat.eq_zero_or_pos k with hk0 | hk0
        · have ho : okLast l k e := by subst hk0; trivial
          have hk1 : ¬ 0 < k := by omega
          by_cases hz : chkGroup e.deg e.gens = 0
          · have hx := hf.trans (chkAt_next he hok ho hz)
            rw [hz] at hgr
            have HN := Lib.hid hnm
            have HG := Lib.hid hgr
            have H2 := Lib.hid (And.intro hb (And.intro hxb hx))
            clear hnm hgr hb hf hx he hok hr hm2 hz ho hk0
            subst hxe
            have hsz0 := H2.out.1.size
            go_wp2_with (go_at_call 31; refine (HN.out _).mono ?_; rintro e w2 ⟨rfl, hb2⟩; obtain ⟨b1, b2, b3, b4⟩ := box3 hb2; have HBW := Lib.hid (hxb.trans (hb2.mono (Nat.le_trans hsz0 (by simp)))); clear hb2)
            go_quiet (fail)
            go_wp2_with (go_at_call 32; refine (HG.out _ (HBW.out.trans (below_self_drewN _ _))).mono ?_; rintro e w4 ⟨rfl, hb4⟩; have HB4 := Lib.hid hb4; clear hb4)
            exact ⟨⟨k + 1, by omega, by go_num, (HBW.out.trans (below_self_drewN w2 _)).trans (HB4.out.mono (by have := HBW.out.size; simpa using this)), H2.out.2.2⟩, by simp [intOf]; omega⟩
          · have hx := hf.trans (chkAt_group he hok ho hz)
            obtain ⟨z, hze⟩ : ∃ z, chkGroup e.deg e.gens = z := ⟨_, rfl⟩
            rw [hze] at hgr hz hx
            have hz2 : (z != 0) = true := by simp [hz]
            have HN := Lib.hid hnm
            have HG := Lib.hid hgr
            have H2 := Lib.hid (And.intro hb (And.intro hxb hx))
            clear hnm hgr hb hf hx he hok hr hm2 hz ho hze hk0
            subst hxe
            have hsz0 := H2.out.1.size
            go_wp2_with (go_at_call 31; refine (HN.out _).mono ?_; rintro e w2 ⟨rfl, hb2⟩; obtain ⟨b1, b2, b3, b4⟩ := box3 hb2; have HBW := Lib.hid (hxb.trans (hb2.mono (Nat.le_trans hsz0 (by simp)))); clear hb2)
            go_quiet (fail)
            go_wp2_with (go_at_call 32; refine (HG.out _ (HBW.out.trans (below_self_drewN _ _))).mono ?_; rintro e w4 ⟨rfl, hb4⟩; have HB4 := Lib.hid hb4; clear hb4)
            go_ret
            exact ⟨ret_int H2.out.2.2.symm, (HBW.out.trans (below_self_drewN w2 _)).trans (HB4.out.mono (by have := HBW.out.size; simpa using this))⟩
        · obtain ⟨j, rfl⟩ : ∃ j, k = j + 1 := ⟨k - 1, by omega⟩
          obtain ⟨d, hd⟩ : ∃ d, l[j]? = some d := ⟨_, List.getElem?_eq_getElem (by omega)⟩
          obtain ⟨B', o', _, _, hB', hBl', c4, _⟩ := H.out.at_ j d hd
          injection hB' with hB'
          injection hB' with e1 e2 _
          subst e1
          subst e2
          have Hc4 := Lib.hid c4
          clear c4
          have hj : (j : Int) < n := by omega
          have hrl := run_leq e.name d.name
          have hwj : IntKind.i64.wrap (j : Int) = (j : Int) := IntWalk.i64_in _ (by omega)
          have hj0 : (0 : Int) ≤ (j : Int) := by omega
          cases hle : leS e.name d.name
          · have ho : okLast l (j + 1) e := ⟨d, hd, hle⟩
            rw [hle] at hrl
            by_cases hz : chkGroup e.deg e.gens = 0
            · have hx := hf.trans (chkAt_next he hok ho hz)
              rw [hz] at hgr
              have HN := Lib.hid hnm
              have HG := Lib.hid hgr
              have H2 := Lib.hid (And.intro hb (And.intro hxb hx))
              clear hnm hgr hb hf hx he hok hr hm2 hz ho hd
              subst hxe
              have hsz0 := H2.out.1.size
              go_wp2_with (go_at_call 31; refine (HN.out _).mono ?_; rintro e w2 ⟨rfl, hb2⟩; obtain ⟨b1, b2, b3, b4⟩ := box3 hb2; have HBW := Lib.hid (hxb.trans (hb2.mono (Nat.le_trans hsz0 (by simp)))); have c4 := (HBW.out.cell (p := ⟨B, o + j * 3, none⟩) hBl').trans Hc4.out; clear hb2)
              go_quiet (fail)
              go_wp2_with (go_at_call 32; refine (HG.out _ (HBW.out.trans (below_self_drewN _ _))).mono ?_; rintro e w4 ⟨rfl, hb4⟩; have HB4 := Lib.hid hb4; clear hb4)
              exact ⟨⟨j + 1 + 1, by omega, by go_num, (HBW.out.trans (below_self_drewN w2 _)).trans (HB4.out.mono (by have := HBW.out.size; simpa using this)), H2.out.2.2⟩, by simp [intOf]; omega⟩
            · have hx := hf.trans (chkAt_group he hok ho hz)
              obtain ⟨z, hze⟩ : ∃ z, chkGroup e.deg e.gens = z := ⟨_, rfl⟩
              rw [hze] at hgr hz hx
              have hz2 : (z != 0) = true := by simp [hz]
              have HN := Lib.hid hnm
              have HG := Lib.hid hgr
              have H2 := Lib.hid (And.intro hb (And.intro hxb hx))
              clear hnm hgr hb hf hx he hok hr hm2 hz ho hze hd
              subst hxe
              have hsz0 := H2.out.1.size
              go_wp2_with (go_at_call 31; refine (HN.out _).mono ?_; rintro e w2 ⟨rfl, hb2⟩; obtain ⟨b1, b2, b3, b4⟩ := box3 hb2; have HBW := Lib.hid (hxb.trans (hb2.mono (Nat.le_trans hsz0 (by simp)))); have c4 := (HBW.out.cell (p := ⟨B, o + j * 3, none⟩) hBl').trans Hc4.out; clear hb2)
              go_quiet (fail)
              go_wp2_with (go_at_call 32; refine (HG.out _ (HBW.out.trans (below_self_drewN _ _))).mono ?_; rintro e w4 ⟨rfl, hb4⟩; have HB4 := Lib.hid hb4; clear hb4)
              go_ret
              exact ⟨ret_int H2.out.2.2.symm, (HBW.out.trans (below_self_drewN w2 _)).trans (HB4.out.mono (by have := HBW.out.size; simpa using this))⟩
          · have hx := hf.trans (chkAt_order he hd hok hle)
            rw [hle] at hrl
            have HN := Lib.hid hnm
            have H2 := Lib.hid (And.intro hb (And.intro hxb hx))
            clear hnm hgr hb hf hx he hok hr hm2 hd
            subst hxe
            have hsz0 := H2.out.1.size
            go_wp2_with (go_at_call 31; refine (HN.out _).mono ?_; rintro e w2 ⟨rfl, hb2⟩; obtain ⟨b1, b2, b3, b4⟩ := box3 hb2; have HBW := Lib.hid (hxb.trans (hb2.mono (Nat.le_trans hsz0 (by simp)))); have c4 := (HBW.out.cell (p := ⟨B, o + j * 3, none⟩) hBl').trans Hc4.out; clear hb2)
            go_quiet (fail)
            go_wp2
            go_ret
            exact ⟨ret_int H2.out.2.2.symm, HBW.out.trans (below_self_drewN _ _)⟩
    · have : k = n := by omega
      subst this
      have hx := hf.trans (chkAt_end (by rw [Hn.out]; exact Nat.le_refl _))
      have H2 := Lib.hid (And.intro hb hx)
      clear hb hf hx
      go_wp2
      go_ret
      exact ⟨ret_int H2.out.2.symm, H2.out.1⟩
end Go.Proofs.YtjjjnpolhbbepaaDoor
