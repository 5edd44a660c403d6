/- Pack. -/
import Derived.Test.YtjjjnpolhbbepaaDoorEnts
import Derived.Test.YtjjjnpolhbbepaaDoorWidth
import Derived.Test.YtjjjnpolhbbepaaDoorAppStr
import Derived.Test.YtjjjnpolhbbepaaDoorBits
import Derived.Test.YtjjjnpolhbbepaaDoorPlainPack
import Derived.Lib.SlBytesConst
import Derived.Deep.DeepCutAuto
set_option linter.unusedSimpArgs false
set_option linter.unusedVariables false
namespace Go.Proofs.YtjjjnpolhbbepaaDoor
open Go.RowKit
open Plain
section
variable {w w1 w2 : World} {B p : Nat} {v : Value} {xs ys base bits : List Nat}
theorem Wr.alloc (h : Wr w B p v xs) (o : Obj) : Wr (w.alloc o) B p v xs := by
  have hb : (w.alloc o).heap[p]? = w.heap[p]? := heap_alloc_old w o h.lt
  exact ⟨(World.cell?_of_block (a := ⟨p, 0, none⟩) hb).trans h.cell, (World.frozen?_of_block (a := ⟨p, 0, none⟩) hb).trans h.fr, h.own.alloc o, h.ne, h.bp, Nat.lt_of_lt_of_le h.lt (grown_alloc w o none).size⟩
theorem WrTo.below (h : WrTo w w1 B p v ys) (hB : B ≤ w.heap.size) (hv : ∀ g, v.ownBlock = some g → B ≤ g) (hp : B ≤ p) : Below B w w1 := by
  obtain ⟨_, _, h2, _⟩ := h
  exact h2.below hB (fun b hb => hb.elim (fun e => e ▸ hp) (hv b))
theorem WtTo.below (h : WtTo w w1 B p v base bits) (hB : B ≤ w.heap.size) (hv : ∀ g, v.ownBlock = some g → B ≤ g) (hp : B ≤ p) : Below B w w1 := by
  obtain ⟨_, _, h2, _⟩ := h
  exact h2.below hB (fun b hb => hb.elim (fun e => e ▸ hp) (hv b))
theorem Wr.own_ge (h : Wr w B p v xs) : ∀ g, v.ownBlock = some g → B ≤ g := fun g hg => by
  rcases h.own.blk with e | ⟨g', _, e, hB, _⟩
  · rw [e] at hg; cases hg
  · rw [e] at hg; cases hg; exact hB
theorem Wr.own_lt (h : Wr w B p v xs) : ∀ g, v.ownBlock = some g → g < w.heap.size := fun g hg => by
  rcases h.own.blk with e | ⟨g', _, e, _, hl, _⟩
  · rw [e] at hg; cases hg
  · rw [e] at hg; cases hg; exact hl
theorem WrTo.drew_left {n : Nat} (h : WrTo (w.drewN n) w1 B p v ys) : WrTo w w1 B p v ys := by
  obtain ⟨v', h1, h2, h3, h4, h5⟩ := h
  exact ⟨v', h1, ⟨h2.os, h2.tape, h2.output, h2.size, h2.block⟩, h3, h4, h5⟩
theorem WtTo.drew_left {n : Nat} (h : WtTo (w.drewN n) w1 B p v base bits) : WtTo w w1 B p v base bits := by
  obtain ⟨v', h1, h2, h3⟩ := h
  exact ⟨v', h1, ⟨h2.os, h2.tape, h2.output, h2.size, h2.block⟩, h3⟩
end
def packH (l : List Ent) (k : Nat) : List Nat := [67, 71, 76, 49, l.length / 256 % 256, l.length % 256] ++ (l.take k).flatMap packEnt
/-- The bytes of a library, in memory of the call's own. -/
def Packed (l : List Ent) (w : World) (e : Ending) (w' : World) : Prop :=
  ∃ v, e = .returned (.tuple #[v, .int .i64 0]) ∧ Own w' w.heap.size v 5 (byts (packAll l)) ∧ Below w.heap.size w w'
/-- What stands between two entries. -/
structure PSt (w wr : World) (p : Nat) (xs : List Nat) (v : Value) : Prop where
  row : Wr wr w.heap.size p v xs
  used : wr.cell? ⟨p, 1, none⟩ = some (.int .i64 0)
  fr : wr.frozen? ⟨p, 1, none⟩ = false
  below : Below w.heap.size w wr
theorem PSt.alloc {w wr : World} {p : Nat} {xs : List Nat} {v : Value} (h : PSt w wr p xs v) (o : Obj) : PSt w (wr.alloc o) p xs v := by
  have hb : (wr.alloc o).heap[p]? = wr.heap[p]? := heap_alloc_old wr o h.row.lt
  exact ⟨h.row.alloc o, (World.cell?_of_block (a := ⟨p, 1, none⟩) hb).trans h.used, (World.frozen?_of_block (a := ⟨p, 1, none⟩) hb).trans h.fr, h.below.alloc h.below.size o⟩
theorem WrTo.keep {w w1 : World} {B p X : Nat} {v : Value} {ys : List Nat} (h : WrTo w w1 B p v ys) (hX : ¬ Cs p v X) {o : Nat} {u : Value} (hc : w.cell? ⟨X, o, none⟩ = some u) : w1.cell? ⟨X, o, none⟩ = some u := by
  obtain ⟨_, _, h2, _⟩ := h
  exact h2.cell (p := ⟨X, o, none⟩) hc hX
theorem WtTo.keep {w w1 : World} {B p X : Nat} {v : Value} {base bits : List Nat} (h : WtTo w w1 B p v base bits) (hX : ¬ Cs p v X) {o : Nat} {u : Value} (hc : w.cell? ⟨X, o, none⟩ = some u) : w1.cell? ⟨X, o, none⟩ = some u := by
  obtain ⟨_, _, h2, _⟩ := h
  exact h2.cell (p := ⟨X, o, none⟩) hc hX
theorem WrTo.le {w w1 : World} {B p : Nat} {v : Value} {ys : List Nat} (h : WrTo w w1 B p v ys) : w.heap.size ≤ w1.heap.size := by
  obtain ⟨_, _, h2, _⟩ := h
  exact h2.size
theorem WtTo.le {w w1 : World} {B p : Nat} {v : Value} {base bits : List Nat} (h : WtTo w w1 B p v base bits) : w.heap.size ≤ w1.heap.size := by
  obtain ⟨_, _, h2, _⟩ := h
  exact h2.size
theorem grown_d {w w1 : World} {r : Option Nat} (h : w.drew.grownBy w1 r) : w.grownBy w1 r := ⟨h.os, h.tape, h.output, h.size, h.block⟩
theorem WrTo.toWt {w w1 : World} {B p : Nat} {v : Value} {ys : List Nat} (h : WrTo w w1 B p v ys) (hu : w.cell? ⟨p, 1, none⟩ = some (.int .i64 0)) (hf : w.frozen? ⟨p, 1, none⟩ = false) : WtTo w w1 B p v ys [] := by
  obtain ⟨v', h1, h2, h3, h4, h5⟩ := h
  have e : ys ++ chunk [] = ys := by simp [chunk]
  exact ⟨v', ⟨by rw [e]; exact h1, (h4 1 (by omega)).trans hu, (h5 1).trans hf, fun b hb => by simp at hb⟩, h2, h3⟩
theorem pack_next {l : List Ent} {k : Nat} {e : Ent} {d : Nat} (he : l[k]? = some e) (hd : e.deg = d) (hd2 : d ≤ 64) (hn : e.name.size ≤ 20) (hnl : (bytesOf e.name).length = e.name.size) (hm : e.gens.length ≤ 16) :
    packH l k ++ bigL e.name.size 1 ++ bytesOf e.name ++ bigL d 1 ++ bigL e.gens.length 1 ++ chunk (bitsG e.gens) = packH l (k + 1) := by
  have h1 : ∀ n, n < 256 → bigL n 1 = [n] := fun n hn => bigL_one hn
  rw [h1 _ (by omega), h1 _ (by omega), h1 _ (by omega)]
  unfold packH
  rw [flat_take he]
  unfold packEnt
  rw [hnl, hd]
  simp
theorem WrTo.next1 {w w1 w2 : World} {B p n : Nat} {v v1 : Value} {ys zs : List Nat} (h : WrTo w w1 B p v ys) (hlt : p < w.heap.size) (h1 : Wr w1 B p v1 ys) (k : WrTo (w1.drewN n) w2 B p v1 zs) : WrTo w w2 B p v zs :=
  WrTo.trans hlt h fun v9 h9 => by
    have e9 := h9.cell.symm.trans h1.cell
    injection e9 with e9
    subst e9
    exact k.drew_left
theorem Wt.reset {w : World} {B p : Nat} {v : Value} {base bits : List Nat} (h : Wt w B p v base bits) : Wr (w.setCell ⟨p, 1, none⟩ (.int .i64 0)) B p v (base ++ chunk bits) ∧
    (w.setCell ⟨p, 1, none⟩ (.int .i64 0)).cell? ⟨p, 1, none⟩ = some (.int .i64 0) ∧ (w.setCell ⟨p, 1, none⟩ (.int .i64 0)).frozen? ⟨p, 1, none⟩ = false := by
  refine ⟨⟨?_, ?_, h.wr.own.kept (grown_put 1 _) (.inr (by intro e; exact h.wr.ne e)), h.wr.ne, h.wr.bp, by simp [World.setCell]; exact h.wr.lt⟩, World.cell?_setCell_same _ _ _ h.used, (World.frozen?_setCell _ _ _ _).trans h.fr1⟩
  · exact (World.cell?_setCell_other _ _ _ _ (by intro e; simp at e)).trans h.wr.cell
  · exact (World.frozen?_setCell _ _ _ _).trans h.wr.fr
theorem lit_new (w : World) {B : Nat} (hB : B ≤ w.heap.size) :
    Lit ((w.alloc (.cells #[.int .u8 67, .int .u8 71, .int .u8 76, .int .u8 49] 5 (4, 5))).alloc (.cells #[.slice (some ⟨w.heap.size, 0, none⟩) 4 4, .int .i64 0] 54)) B (w.heap.size + 1) (.slice (some ⟨w.heap.size, 0, none⟩) 4 4) [67, 71, 76, 49] ∧
    ((w.alloc (.cells #[.int .u8 67, .int .u8 71, .int .u8 76, .int .u8 49] 5 (4, 5))).alloc (.cells #[.slice (some ⟨w.heap.size, 0, none⟩) 4 4, .int .i64 0] 54)).cell? ⟨w.heap.size + 1, 1, none⟩ = some (.int .i64 0) ∧
    ((w.alloc (.cells #[.int .u8 67, .int .u8 71, .int .u8 76, .int .u8 49] 5 (4, 5))).alloc (.cells #[.slice (some ⟨w.heap.size, 0, none⟩) 4 4, .int .i64 0] 54)).frozen? ⟨w.heap.size + 1, 1, none⟩ = false := by
  have h0 := heap_alloc_new w (.cells #[.int .u8 67, .int .u8 71, .int .u8 76, .int .u8 49] 5 (4, 5))
  generalize hw1 : w.alloc (.cells #[.int .u8 67, .int .u8 71, .int .u8 76, .int .u8 49] 5 (4, 5)) = w1 at h0 ⊢
  have hs1 : w1.heap.size = w.heap.size + 1 := by rw [← hw1]; simp
  have h1 := heap_alloc_new w1 (.cells #[.slice (some ⟨w.heap.size, 0, none⟩) 4 4, .int .i64 0] 54)
  have h2 := heap_alloc_old w1 (.cells #[.slice (some ⟨w.heap.size, 0, none⟩) 4 4, .int .i64 0] 54) (r := w.heap.size) (by omega)
  rw [h0] at h2
  rw [hs1] at h1
  generalize hw2 : w1.alloc (.cells #[.slice (some ⟨w.heap.size, 0, none⟩) 4 4, .int .i64 0] 54) = w2 at h1 h2 ⊢
  have hs2 : w2.heap.size = w.heap.size + 2 := by rw [← hw2]; simp [hs1]
  refine ⟨⟨?_, ?_, by omega, by omega, w.heap.size, rfl, fun j u hu => ?_⟩, ?_, ?_⟩
  · simp only [World.cell?, h1]; rfl
  · simp only [World.frozen?, h1]; rfl
  · have hj : j < 4 := by have := (List.getElem?_eq_some_iff.1 hu).1; simpa [byts] using this
    simp only [World.cell?, h2]
    rw [← hu]
    match j, hj with
    | 0, _ => rfl
    | 1, _ => rfl
    | 2, _ => rfl
    | 3, _ => rfl
  · simp only [World.cell?, h1]; rfl
  · simp only [World.frozen?, h1]; rfl
theorem bigL_two (n : Nat) : bigL n 2 = [n / 256 % 256, n % 256] := by simp [bigL]
theorem bigL_four (n : Nat) : bigL n 4 = four n := by simp [bigL, four]
theorem packH_zero (l : List Ent) : packH l 0 = [67, 71, 76, 49] ++ bigL l.length 2 := by rw [bigL_two]; simp [packH]
set_option maxRecDepth 100000 in
set_option maxHeartbeats 8000000 in
theorem pack_ok {w : World} {a : Option Addr} {c : Nat} {l : List Ent} (h : Ents w a l) (hk : chk l = 0) :
    Calls Tryd.prog 9 #[.slice a l.length c] w (Packed l w) := by
  have h200 : l.length ≤ 200 := by
    unfold chk at hk
    split at hk
    · omega
    · omega
  have hall : ∀ e ∈ l, okName (bytesOf e.name) = true ∧ chkGroup e.deg e.gens = 0 := by
    unfold chk at hk
    split at hk
    · omega
    · exact chk_all hk
  have hc := check_calls (c := c) h
  rw [hk] at hc
  have hm := h.len
  obtain ⟨n, hn⟩ : ∃ n, l.length = n := ⟨_, rfl⟩
  rw [hn] at hm h200 hc ⊢
  have H := Lib.hid h
  have Hc := Lib.hid hc
  have Hall := Lib.hid (And.intro hall hn)
  have Hlt := Lib.hid (fun x hx => packAll_lt hk x (List.mem_append_left _ hx) : ∀ x ∈ packBody l, x < 256)
  clear h hc hall hk hn
  have kc := fun (w : World) (C : Array Value) (n c : Nat) => Lib.run_convert_bytes_const (P := Tryd.prog) w 52 5 C n c Tryd.underlying52 Tryd.underlying5
  go_enter Tryd.func9, Tryd.ntmps9
  go_wp2_with (go_at_call 11; refine Hc.out.mono ?_; rintro e w1 ⟨rfl, hb1⟩; have HB1 := Lib.hid hb1; have hsz1 := hb1.size; clear hb1)
  have HL := Lib.hid (lit_new w1 hsz1)
  go_wp2_with (go_at_call 24; refine (big_calls (B := w.heap.size) n 2 (.inr ⟨HL.out.1, by omega⟩) (by simp; omega) (by omega) (by omega) (by simp)).mono ?_; rintro e w2 ⟨rfl, hto⟩)
  have hP : ∃ v, PSt w w2 (w1.heap.size + 1) (packH l 0) v := by
    have hb2 := hto.below (by simp; omega) (by intro g hg; cases hg; exact hsz1) (by omega)
    obtain ⟨v2, t1, t2, t3, t4, t5⟩ := hto
    refine ⟨v2, ?_, ?_, ?_, ?_⟩
    · rw [packH_zero, Hall.out.2]; exact t1
    · rw [t4 1 (by omega)]; exact HL.out.2.1
    · rw [t5]; exact HL.out.2.2
    · exact ((HB1.out.alloc hsz1 _).alloc (by simp; omega) _).trans hb2
  clear hto HL
  go_loopw [33] (fun i wr => ∃ (k : Nat), k ≤ n ∧ i = .int .i64 (k : Int) ∧ ∃ v, PSt w wr (w1.heap.size + 1) (packH l k) v) (fun i _ => n - (intOf i).toNat)
  case atStart => exact ⟨0, Nat.zero_le _, rfl, hP⟩
  case round =>
    clear hP
    obtain ⟨k, hk, rfl, v, hP⟩ := hrel
    by_cases hlt : k < n
    · have hkn : k < l.length := by rw [Hall.out.2]; exact hlt
      obtain ⟨e, he⟩ : ∃ e, l[k]? = some e := ⟨_, List.getElem?_eq_getElem hkn⟩
      obtain ⟨B, o, g, cg, rfl, hBl, c1, c2, c3, hr⟩ := H.out.at_ k e he
      have hb := hP.below
      replace c1 := (hb.cell (p := ⟨B, o + k * 3, none⟩) hBl).trans c1
      replace c2 := (hb.cell (p := ⟨B, o + k * 3 + 1, none⟩) hBl).trans c2
      replace c3 := (hb.cell (p := ⟨B, o + k * 3 + 2, none⟩) hBl).trans c3
      have hBr := Nat.lt_of_lt_of_le hBl hb.size
      obtain ⟨hok, hgz⟩ := Hall.out.1 e (List.mem_of_getElem? he)
      obtain ⟨hd1, hd2, hmg, hgens⟩ := chkGroup_ok.1 hgz
      have hnl := okName_len hok
      have hnls : (bytesOf e.name).length = e.name.size := by unfold bytesOf; simp
      rw [hnls] at hnl
      obtain ⟨d, hd⟩ : ∃ d : Nat, e.deg = d := ⟨e.deg.toNat, by omega⟩
      rw [hd] at hd1 hd2 c2
      obtain ⟨m, hm2⟩ : ∃ m, e.gens.length = m := ⟨_, rfl⟩
      rw [hm2] at hmg c3
      have hxl : (packH l k).length ≤ 300000 := by
        have h1 := flat_len (es := l.take k) (fun x hx => by have := Hall.out.1 x (List.mem_of_mem_take hx); exact packEnt_len this.1 this.2)
        rw [List.length_take] at h1
        simp only [packH, List.length_append, List.length_cons, List.length_nil]
        have : (min k l.length) * 1000 ≤ 200 * 1000 := Nat.mul_le_mul_right _ (by omega)
        omega
      have hpl := hP.row.lt
      have hps : w.heap.size ≤ wr.heap.size := hb.size
      have HK := Lib.hid (And.intro hP (And.intro he (And.intro hr (And.intro hgens (And.intro hd (And.intro hm2 (And.intro hnls hxl)))))))
      clear hP hb he hr hgens hd hm2 hnls hxl hok hgz hkn
      go_wp2
      have x0 : (wr.alloc (.cells #[.string e.name, .int .i64 (d : Int), .slice g m cg] 46)).cell? ⟨wr.heap.size, 0, none⟩ = some (.string e.name) := by simp
      have x1 : (wr.alloc (.cells #[.string e.name, .int .i64 (d : Int), .slice g m cg] 46)).cell? ⟨wr.heap.size, 1, none⟩ = some (.int .i64 (d : Int)) := by simp
      have x2 : (wr.alloc (.cells #[.string e.name, .int .i64 (d : Int), .slice g m cg] 46)).cell? ⟨wr.heap.size, 2, none⟩ = some (.slice g m cg) := by simp
      have x3 : wr.heap.size < (wr.alloc (.cells #[.string e.name, .int .i64 (d : Int), .slice g m cg] 46)).heap.size := by simp
      have hXp : ¬ Cs (w1.heap.size + 1) v wr.heap.size := fun h => h.elim (fun e => by omega) (fun e => by have := HK.out.1.row.own_lt _ e; omega)
      have hPx := HK.out.1.alloc (.cells #[.string e.name, .int .i64 (d : Int), .slice g m cg] 46)
      replace HK := Lib.hid HK.out.2
      clear c1 c2 c3 hBr
      generalize wr.alloc (.cells #[.string e.name, .int .i64 (d : Int), .slice g m cg] 46) = wx at *
      generalize wr.heap.size = X at *
      have hBx : w.heap.size ≤ wx.heap.size := hPx.below.size
      have hlt1 := hPx.row.lt
      have HP := Lib.hid (And.intro hPx hXp)
      clear hPx hXp
      go_still_tail 7, (by kernel_rfl)
      change wpList _ _ _ _ _ (wx.drewN 1)
      go_wp2_with (go_at_call 24; refine (big_calls (B := w.heap.size) e.name.size 1 (.inl (HP.out.1.row.drewN 1)) hBx (by omega) (by omega) (by have := HK.out.2.2.2.2.2.2; omega)).mono ?_; rintro e w2 ⟨rfl, hto⟩; have HT := Lib.hid hto.drew_left; clear hto)
      obtain ⟨v2, t1, _⟩ := HT.out
      obtain ⟨g2, cap2, rfl, hg2, hcap2⟩ := t1.form (by simp [bigL])
      obtain ⟨N2, hN2⟩ : ∃ N2, (packH l k ++ bigL e.name.size 1).length = N2 := ⟨_, rfl⟩
      rw [hN2] at t1 hcap2
      have hN9 : N2 < 400000 := by rw [← hN2, List.length_append, bigL_len]; have := HK.out.2.2.2.2.2.2; omega
      have hc2 := t1.cell
      have hf2 := t1.fr
      have y0 := HT.out.keep HP.out.2 x0
      have y1 := HT.out.keep HP.out.2 x1
      have y2 := HT.out.keep HP.out.2 x2
      have hB2 : w.heap.size ≤ w2.heap.size := Nat.le_trans hBx HT.out.le
      obtain ⟨i5, hi5, hz5, hs5, hb5⟩ := info_parts Tryd.info5
      have I5 := Lib.hid (And.intro hi5 (And.intro hz5 (And.intro hs5 hb5)))
      have HW2 := Lib.hid (And.intro t1 hN2)
      clear hi5 hz5 hs5 hb5 t1 hN2
      have hu9 := Tryd.underlying9
      have Hu9 := Lib.hid hu9
      clear hu9
      go_upto_region 10 with (fail)
      go_cut [53] (fun _ wy => WrTo wx wy w.heap.size (w1.heap.size + 1) v (packH l k ++ bigL e.name.size 1 ++ bytesOf e.name))
      case first =>
        go_region_law
          ((refine step_app_str (by rfl) _ _ _ _ (by rfl) w.heap.size 5 i5 Tryd.underlying52 Hu9.out I5.out.1 I5.out.2.1 I5.out.2.2.1 I5.out.2.2.2 g2 N2 cap2 (byts (packH l k ++ bigL e.name.size 1)) (by rfl) (by have h := HW2.out.1.own; have h2 := HW2.out.2; unfold Own at h; rw [byts_len, h2] at h; exact h) e.name (by rfl) (by omega) hB2 ?_; intro G3 cap3 w3 hown3 hgrow3 hG3; obtain ⟨g5, g6⟩ := HW2.out.1.mid (v := .slice (some ⟨g2, 0, none⟩) N2 cap2) (grown_d hgrow3); have H9 := Lib.hid (And.intro hown3 (And.intro (grown_d hgrow3) hG3)); clear hown3 hgrow3 hG3))
        all_goals
          go_wp2
          go_meet
          refine WrTo.trans hlt1 HT.out fun v9 h9 => ?_
          have e9 := h9.cell.symm.trans hc2
          injection e9 with e9
          subst e9
          exact Wr.strung h9 (by have := H9.out.1; exact this) H9.out.2.1 H9.out.2.2
      case rest =>
        clear y0 y1 y2 hc2 hf2 hN9 hB2 HW2 Hu9 hcap2 HT I5 hg2
        have z1 := hcut.keep HP.out.2 x1
        have z2 := hcut.keep HP.out.2 x2
        have hBc : w.heap.size ≤ wc.heap.size := Nat.le_trans hBx hcut.le
        have HC := Lib.hid hcut
        clear hcut
        go_wp2
        go_still_tail 7, (by kernel_rfl)
        change wpList _ _ _ _ _ (wc.drewN 1)
        obtain ⟨v3, t3, _⟩ := HC.out
        have HV3 := Lib.hid t3
        clear t3
        go_wp2_with (go_at_call 24; refine (big_calls (B := w.heap.size) d 1 (.inl (HV3.out.drewN 1)) hBc (by omega) (by omega) (by have := HK.out.2.2.2.2.2.2; have h5 := HK.out.2.2.2.2.2.1; simp only [List.length_append, bigL_len]; omega)).mono ?_; rintro e w4 ⟨rfl, hto⟩)
        have hto4 := HC.out.next1 hlt1 HV3.out hto
        clear hto HC HV3 z1 z2 hBc
        have z1 := hto4.keep HP.out.2 x1
        have z2 := hto4.keep HP.out.2 x2
        have hBc : w.heap.size ≤ w4.heap.size := Nat.le_trans hBx hto4.le
        have HC := Lib.hid hto4
        clear hto4
        go_still_tail 8, (by kernel_rfl)
        change wpList _ _ _ _ _ (w4.drewN 1)
        obtain ⟨v3, t3, _⟩ := HC.out
        have HV3 := Lib.hid t3
        clear t3
        go_wp2_with (go_at_call 24; refine (big_calls (B := w.heap.size) m 1 (.inl (HV3.out.drewN 1)) hBc (by omega) (by omega) (by have := HK.out.2.2.2.2.2.2; have h5 := HK.out.2.2.2.2.2.1; simp only [List.length_append, bigL_len]; omega)).mono ?_; rintro e w5 ⟨rfl, hto⟩; have hto5 := HC.out.next1 hlt1 HV3.out hto; have z2 := hto5.keep HP.out.2 x2; have HT5 := Lib.hid (hto5.toWt HP.out.1.used HP.out.1.fr); clear hto hto5)
        clear HC HV3 z1 hBc
        obtain ⟨hd0, hd9⟩ : 1 ≤ d ∧ d ≤ 64 := by omega
        generalize hbase : packH l k ++ bigL e.name.size 1 ++ bytesOf e.name ++ bigL d 1 ++ bigL m 1 = base at HT5
        have hbl : base.length < 400000 := by
          rw [← hbase]
          have := HK.out.2.2.2.2.2.2; have h5 := HK.out.2.2.2.2.2.1; simp only [List.length_append, bigL_len]; omega
        have HB := Lib.hid hbase
        clear hbase
        go_loopw [76] (fun i wy => ∃ (j : Nat), j ≤ m ∧ i = .int .i64 (j : Int) ∧ WtTo wx wy w.heap.size (w1.heap.size + 1) v base (bitsG (e.gens.take j))) (fun i _ => m - (intOf i).toNat)
        case atStart => exact ⟨0, Nat.zero_le _, rfl, HT5.out⟩
        case round =>
          clear HT5 z2
          obtain ⟨j, hj, rfl, hT⟩ := hrel
          obtain ⟨wj, rfl⟩ : ∃ wj, wj = wr := ⟨_, rfl⟩
          have hBj : Below w.heap.size w wj := HP.out.1.below.trans (hT.below hBx HP.out.1.row.own_ge HP.out.1.row.bp)
          by_cases hjm : j < m
          · have hjg : j < e.gens.length := by rw [HK.out.2.2.2.2.1]; exact hjm
            obtain ⟨gb, go, b, cb, rfl, hgl, hcg, hi, hcb⟩ := HK.out.2.1.at_ hjg
            obtain ⟨q, hq⟩ : ∃ q, e.gens[j]? = some q := ⟨_, List.getElem?_eq_getElem hjg⟩
            rw [hq, Option.getD_some] at hcg hi hcb
            have hql : q.length = d := by
              have h1 := (HK.out.2.2.1 q (List.mem_of_getElem? hq)).1
              have h2 := HK.out.2.2.2.1
              omega
            rw [hql] at hcg hcb
            replace hcg := (hBj.cell (p := ⟨gb, go + j, none⟩) hgl).trans hcg
            have HT := Lib.hid hT
            have HJ := Lib.hid (And.intro hq (And.intro hi hql))
            clear hT hq hi hql hjg
            go_wp2
            go_loopw [82] (fun i wy => ∃ (r : Nat), r ≤ d ∧ i = .int .i64 (r : Int) ∧ WtTo wx wy w.heap.size (w1.heap.size + 1) v base (bitsG (e.gens.take j) ++ bitsK (digs q) r)) (fun i _ => d - (intOf i).toNat)
            case atStart => exact ⟨0, Nat.zero_le _, rfl, by simpa [bitsK] using HT.out⟩
            case round =>
              clear hcg hBj HT
              obtain ⟨r, hr, rfl, hT⟩ := hrel
              have hBj : Below w.heap.size w wr := HP.out.1.below.trans (hT.below hBx HP.out.1.row.own_ge HP.out.1.row.bp)
              by_cases hrd : r < d
              · obtain ⟨qb, qo, rfl, hqb, hcq⟩ := HJ.out.2.1.at_ (k := r) (by rw [HJ.out.2.2]; exact hrd)
                replace hcq := (hBj.cell (p := ⟨qb, qo + r, none⟩) hqb).trans hcq
                have hdg := digs_get q r (by rw [HJ.out.2.2]; exact hrd)
                obtain ⟨x, hx⟩ : ∃ x, q[r]?.getD 0 = x := ⟨_, rfl⟩
                rw [hx] at hcq hdg
                have hcells : ∀ t, t < d - r → wr.cell? ⟨qb, qo + r + t, none⟩ = some (.int .i64 (((q.drop r)[t]?).getD 0)) := fun t ht => by
                  obtain ⟨qb', qo', he', hqb', hc'⟩ := HJ.out.2.1.at_ (k := r + t) (by rw [HJ.out.2.2]; omega)
                  injection he' with he'
                  injection he' with e1 e2 _
                  subst e1
                  subst e2
                  rw [List.getElem?_drop, Nat.add_assoc]
                  exact (hBj.cell (p := ⟨qb, qo + (r + t), none⟩) hqb').trans hc'
                have HD := Lib.hid (And.intro hcells (And.intro hdg hT))
                clear hcells hdg hT hx
                have hrc : ¬ cb = r := by omega
                have hrc2 : ¬ (cb : Int) = r := by omega
                go_wp2
                go_loop [12, 91] (fun s t => ∃ u : Nat, u ≤ d - r ∧ t = .int .i64 (u : Int) ∧ s = .int .i64 ((cnt x ((q.drop r).take u) : Nat) : Int)) (fun _ t => d - (intOf t).toNat)
                case atStart => exact ⟨0, Nat.zero_le _, rfl, rfl⟩
                case round =>
                  obtain ⟨u, hu, rfl, rfl⟩ := hrel
                  by_cases hur : u < d - r
                  · have hcu := HD.out.1 u hur
                    have hst := cnt_step x (q.drop r) u (by rw [List.length_drop, HJ.out.2.2]; exact hur)
                    obtain ⟨y, hy⟩ : ∃ y, ((q.drop r)[u]?).getD 0 = y := ⟨_, rfl⟩
                    rw [hy] at hcu hst
                    have hcl := cnt_le x ((q.drop r).take u)
                    have hcl2 : ((q.drop r).take u).length ≤ u := List.length_take_le _ _
                    obtain ⟨s0, hs0⟩ : ∃ s0, cnt x ((q.drop r).take u) = s0 := ⟨_, rfl⟩
                    rw [hs0] at hst hcl ⊢
                    have hs9 : s0 ≤ 64 := by omega
                    have hu2 : (u : Int) < (d : Int) - r := by omega
                    by_cases hyx : y < x
                    · rw [if_pos hyx] at hst
                      have HS := Lib.hid hst
                      clear hst hs0 hy hcl2
                      go_wp2
                      go_round
                      case rel => exact ⟨u + 1, by omega, by go_num, by rw [HS.out]; go_num⟩
                      case measure => simp [intOf]; omega
                    · rw [if_neg hyx] at hst
                      have HS := Lib.hid hst
                      clear hst hs0 hy hcl2
                      have hxy : x ≤ y := by omega
                      go_wp2
                      go_round
                      case rel => exact ⟨u + 1, by omega, by go_num, by rw [HS.out]; rfl⟩
                      case measure => simp [intOf]; omega
                  · obtain rfl : u = d - r := by omega
                    have htk : (q.drop r).take (d - r) = q.drop r := List.take_of_length_le (by rw [List.length_drop, HJ.out.2.2]; exact Nat.le_refl _)
                    rw [htk]
                    have hcl := cnt_le x (q.drop r)
                    have hcl2 : (q.drop r).length ≤ 64 := by rw [List.length_drop, HJ.out.2.2]; omega
                    obtain ⟨z, hz⟩ : ∃ z, cnt x (q.drop r) = z := ⟨_, rfl⟩
                    rw [hz] at hcl ⊢
                    have hdz : (digs q)[r]?.getD 0 = z := HD.out.2.1.trans hz
                    have HZ := Lib.hid hdz
                    have hwl := wid_le (d - r) (by omega)
                    have hur2 : ¬ (((d - r : Nat) : Int) < (d : Int) - r) := by omega
                    clear htk hz hdz
                    obtain ⟨v6, t6, _⟩ := HD.out.2.2
                    have H6 := Lib.hid t6
                    have hB6 : w.heap.size ≤ wr.heap.size := Nat.le_trans hBx HD.out.2.2.le
                    have hlb : base.length + (bitsG (e.gens.take j) ++ bitsK (digs q) r).length < 1000000000 := by
                      have h1 := bitsG_take_len (gs := e.gens) (n := d) (m := j) (fun p hp => by have h1 := (HK.out.2.2.1 p hp).1; have h2 := HK.out.2.2.2.1; omega) hd9 (by have := HK.out.2.2.2.2.1; omega)
                      have h2 := bitsK_len (ds := digs q) (k := r) (by rw [digs_len, HJ.out.2.2]; omega) (by rw [digs_len, HJ.out.2.2]; exact hd9)
                      rw [List.length_append]
                      omega
                    have HLB := Lib.hid hlb
                    clear t6 hlb
                    go_wp2_with (first | (go_at_call 26; refine (width_calls d r _ hrd hd9).mono ?_; rintro e w' ⟨rfl, rfl⟩) | (go_at_call 25; refine (bits_calls (B := w.heap.size) z (wid (d - r)) H6.out hB6 (by omega) (by omega) HLB.out).mono ?_; rintro e w7 ⟨rfl, hto⟩; have HT7 := Lib.hid hto; clear hto))
                    refine ⟨⟨r + 1, by omega, by go_num, ?_⟩, by simp [intOf]; omega⟩
                    rw [bitsK, HZ.out, digs_len, HJ.out.2.2, ← List.append_assoc]
                    refine WtTo.trans hlt1 HD.out.2.2 fun v9 h9 => ?_
                    have e9 := h9.wr.cell.symm.trans H6.out.wr.cell
                    injection e9 with e9
                    subst e9
                    exact HT7.out
              · obtain rfl : r = d := by omega
                have hkk : bitsK (digs q) r = bitsD (digs q) := by
                  have := bitsK_all (digs q)
                  rw [digs_len, HJ.out.2.2] at this
                  exact this
                rw [hkk, ← bitsG_take HJ.out.1] at hT
                have HT := Lib.hid hT
                clear hkk
                go_wp2
                exact ⟨⟨j + 1, by omega, by go_num, HT.out⟩, by simp [intOf]; omega⟩
          · obtain rfl : j = m := by omega
            have htk : e.gens.take j = e.gens := List.take_of_length_le (by rw [HK.out.2.2.2.2.1]; exact Nat.le_refl _)
            rw [htk] at hT
            obtain ⟨v7, t7, _⟩ := hT
            have hc7 := t7.used
            have hf7 := t7.fr1
            have H7 := Lib.hid (And.intro t7 hBj)
            clear htk t7 hBj
            go_wp2
            refine ⟨⟨k + 1, by omega, by go_num, v7, ?_⟩, by simp [intOf]; omega⟩
            obtain ⟨r1, r2, r3⟩ := H7.out.1.reset
            refine ⟨?_, r2, r3, H7.out.2.setCell (by have := H7.out.1.wr.bp; exact this) _⟩
            have hpn := pack_next HK.out.1 HK.out.2.2.2.1 (by omega) (by omega) HK.out.2.2.2.2.2.1 (by rw [HK.out.2.2.2.2.1]; exact hmg)
            rw [HK.out.2.2.2.2.1, HB.out] at hpn
            rw [← hpn]
            exact r1
    · obtain rfl : k = n := by omega
      have hall : packH l k = packBody l := by
        unfold packH packBody
        rw [List.take_of_length_le (by rw [Hall.out.2]; exact Nat.le_refl _)]
      rw [hall] at hP
      have hxl : (packBody l).length ≤ 300000 := by
        have h1 := flat_len (es := l) (fun x hx => by have := Hall.out.1 x hx; exact packEnt_len this.1 this.2)
        rw [Hall.out.2] at h1
        simp only [packBody, List.length_append, List.length_cons, List.length_nil]
        omega
      obtain ⟨g8, cap8, rfl, hg8, _⟩ := hP.row.form (by simp [packBody])
      obtain ⟨N8, hN8⟩ : ∃ N8, (packBody l).length = N8 := ⟨_, rfl⟩
      rw [hN8] at hP hxl
      have hc8 := hP.row.cell
      have hB8 := hP.below.size
      have HP := Lib.hid (And.intro hP hN8)
      clear hP hN8 hall hg8
      have hsum : ∀ q : Nat, Calls Tryd.prog 14 #[.slice (some ⟨g8, 0, none⟩) N8 cap8] (wr.drewN q) fun e w' => e = .returned (.int .u32 ((sumB (packBody l) : Nat) : Int)) ∧ w' = wr.drewN q := fun q => by
        have hb : Byts (wr.drewN q) (some ⟨g8, 0, none⟩) (packBody l) := by
          have h1 := HP.out.1.row.own
          have h2 := h1.row (by rw [byts_len]; unfold maxLen; have := HP.out.2; omega)
          obtain ⟨a9, c9, e9, hr9⟩ := h2
          injection e9 with e1 e2 e3
          subst e1
          exact hr9
        have hlt : ∀ x ∈ packBody l, x < 256 := Hlt.out
        have := sum_calls (c := cap8) hb hlt
        rw [HP.out.2] at this
        exact this.mono fun _ _ ⟨h1, h2⟩ => ⟨h1, h2.symm⟩
      have hsl := sumTo_lt (h := 7) (by omega) (packBody l)
      obtain ⟨S, hS⟩ : ∃ S, sumB (packBody l) = S := ⟨_, rfl⟩
      have hS2 : S < 4294967296 := by rw [← hS]; exact hsl
      rw [hS] at hsum
      have HS := Lib.hid (And.intro hsum hS)
      clear hsum hsl hS
      go_wp2
      go_still_tail 8, (by kernel_rfl)
      still_call (HS.out.1 1)
      refine wpStill_nil ?_
      change wpList _ _ _ _ _ (wr.drewN 1)
      go_wp2_with (go_at_call 24; refine (big_calls (B := w.heap.size) S 4 (.inl (HP.out.1.row.drewN 1)) hB8 (by omega) (by omega) (by have := HP.out.2; omega)).mono ?_; rintro e w9 ⟨rfl, hto⟩; obtain ⟨v9, t9, t8⟩ := hto.drew_left; have hc9 := t9.cell; have HT9 := Lib.hid (And.intro t9 (hto.drew_left.below hB8 HP.out.1.row.own_ge HP.out.1.row.bp)); clear t9 t8 hto)
      go_ret2
      refine ⟨v9, rfl, ?_, HP.out.1.below.trans HT9.out.2⟩
      have h := HT9.out.1.own
      rw [bigL_four, ← HS.out.2] at h
      exact h
set_option maxRecDepth 100000 in
set_option maxHeartbeats 2000000 in
theorem pack_bad {w : World} {a : Option Addr} {c : Nat} {l : List Ent} (h : Ents w a l) (hk : chk l ≠ 0) :
    Calls Tryd.prog 9 #[.slice a l.length c] w fun e w' => e = .returned (.tuple #[.slice none 0 0, .int .i64 (chk l)]) ∧ Below w.heap.size w w' := by
  have hc := check_calls (c := c) h
  obtain ⟨z, hz⟩ : ∃ z, chk l = z := ⟨_, rfl⟩
  rw [hz] at hc hk ⊢
  have hz2 : (z != 0) = true := by simp [hk]
  have Hc := Lib.hid hc
  clear h hc hz hk
  go_enter Tryd.func9, Tryd.ntmps9
  go_wp2_with (go_at_call 11; refine Hc.out.mono ?_; rintro e w1 ⟨rfl, hb1⟩; have HB1 := Lib.hid hb1; clear hb1)
  go_ret2
  exact ⟨rfl, HB1.out⟩
end Go.Proofs.YtjjjnpolhbbepaaDoor
