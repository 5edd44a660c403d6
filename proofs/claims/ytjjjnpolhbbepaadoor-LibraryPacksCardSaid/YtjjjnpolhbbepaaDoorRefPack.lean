/- The reference's Pack. -/
import Derived.Test.YtjjjnpolhbbepaaDoorRefBits
import Derived.Test.YtjjjnpolhbbepaaDoorPack
import Derived.ArgAppend
set_option linter.unusedSimpArgs false
set_option linter.unusedVariables false
namespace Go.Proofs.YtjjjnpolhbbepaaDoor
open Go.RowKit
open Plain
section
variable {w : World}
/-- append of a string's bytes to a row of the call's own that is not empty. -/
theorem appS {ops : Array Oper} {rest : List Oper} {o : Oper} {a : Act} {Q : Exit → Act → World → Prop} (hgd : o.guard = none) (s x : Operand)
    (ho : o.op = .call { callee := .builtin .append, args := #[s, x], argTypes := #[23, 9] })
    (B : Nat) (v : Value) (ys : List Nat) (hs : a.eval s = v) (hown : Own w B v 5 (byts ys)) (str : ByteArray) (hx : a.eval x = .string str) (h0 : 0 < ys.length) (hl : ys.length + str.size < 1000000000000) (hB : B ≤ w.heap.size)
    (h : ∀ v' w', RowTo w w' B 5 v v' (byts (ys ++ bytesOf str)) → wpList Tryd.prog ops Q rest (a.put o.dst v') w') :
    wpList Tryd.prog ops Q (o :: rest) a w := by
  obtain ⟨i5, hi5, hz5, hs5, hb5⟩ := info_parts Tryd.info5
  refine wpList_plain hgd fun K hK' => ?_
  obtain ⟨g, cap, rfl, _⟩ := hown.form (by rw [byts_len]; exact h0)
  obtain ⟨G, cap', w', hr, h2, h3, h4⟩ := run_app_str (P := Tryd.prog) (w := w) B 23 9 o.type 5 i5 Tryd.underlying23 Tryd.underlying9 hi5 hz5 hs5 hb5 g (byts ys).length cap (byts ys) hown str (by rw [byts_len]; omega) hB
  unfold Oper.wp execOp
  simp only [ho, resolve, invoke, builtin, Sem.run_bind, Sem.run_pure, Result.andThen_ok, List.map_toArray, List.map_cons, List.map_nil, hs, hx, hr]
  refine hK' _ _ (h _ _ ⟨?_, h3, ?_⟩)
  · unfold Own
    rw [byts_app, ← strCells_byts]
    have hs : (byts ys ++ Lib.strCells str).length = (byts ys).length + str.size := by rw [List.length_append, Lib.strCells_length]
    rw [hs]
    exact h2
  · rcases h4 with e | e
    · exact .inl (by rw [e]; rfl)
    · exact .inr ⟨G, rfl, e⟩
end
theorem lit2 (w : World) (x y : Value) :
    (∀ j u, (byts [67, 71, 76, 49])[j]? = some u → ((w.alloc (.cells #[.int .u8 67, .int .u8 71, .int .u8 76, .int .u8 49] 5 (4, 5))).alloc (.cells #[x, y] 5)).cell? ((⟨w.heap.size, 0, none⟩ : Addr).add j) = some u) ∧
    (∀ j u, [x, y][j]? = some u → ((w.alloc (.cells #[.int .u8 67, .int .u8 71, .int .u8 76, .int .u8 49] 5 (4, 5))).alloc (.cells #[x, y] 5)).cell? ((⟨w.heap.size + 1, 0, none⟩ : Addr).add j) = some u) := by
  have h0 := heap_alloc_new w (.cells #[.int .u8 67, .int .u8 71, .int .u8 76, .int .u8 49] 5 (4, 5))
  generalize hw1 : w.alloc (.cells #[.int .u8 67, .int .u8 71, .int .u8 76, .int .u8 49] 5 (4, 5)) = w1 at h0 ⊢
  have hs1 : w1.heap.size = w.heap.size + 1 := by rw [← hw1]; simp
  have h1 := heap_alloc_new w1 (.cells #[x, y] 5)
  have h2 := heap_alloc_old w1 (.cells #[x, y] 5) (r := w.heap.size) (by omega)
  rw [h0] at h2
  rw [hs1] at h1
  exact ⟨World.news_of_block h2, World.news_of_block h1⟩
def lenV : Value → Nat
  | .slice _ n _ => n
  | _ => 0
theorem Own.lenV {w : World} {B : Nat} {v : Value} {e : TypeId} {xs : List Value} (h : Own w B v e xs) : lenV v = xs.length := by
  rcases h.2 with ⟨rfl, h0⟩ | ⟨g, cap, cur, rfl, _⟩
  · exact h0.symm
  · rfl
theorem RowTo.cellK {w w1 : World} {B : Nat} {e : TypeId} {v v1 : Value} {xs : List Value} (h : RowTo w w1 B e v v1 xs) {X : Nat} (hX : v.ownBlock ≠ some X) {o : Nat} {u : Value} (hc : w.cell? ⟨X, o, none⟩ = some u) : w1.cell? ⟨X, o, none⟩ = some u :=
  (World.cell?_of_block (a := ⟨X, o, none⟩) (h.gr.block X (block_lt_of_cell hc) (fun e => hX e.symm))).trans hc
theorem grown_weak {w w1 : World} (h : w.grownBy w1 none) (row : Option Nat) : w.grownBy w1 row := ⟨h.os, h.tape, h.output, h.size, fun i hi _ => h.block i hi (by simp)⟩
theorem RowTo.left {w w0 w1 : World} {B : Nat} {e : TypeId} {v v1 : Value} {xs : List Value} (h : RowTo w w1 B e v v1 xs) (hg : w0.grownBy w none) : RowTo w0 w1 B e v v1 xs :=
  ⟨h.own, grown_new (grown_weak hg _) h.gr (fun g hg => .inr hg), h.nw.imp id (fun ⟨g, e, hl⟩ => ⟨g, e, Nat.le_trans hg.size hl⟩)⟩
structure RPSt (w wr : World) (v : Value) (xs : List Nat) : Prop where
  own : Own wr w.heap.size v 5 (byts xs)
  below : Below w.heap.size w wr
def packB (l : List Ent) (k : Nat) (e : Ent) (d m : Nat) : List Nat := packH l k ++ [e.name.size] ++ bytesOf e.name ++ [d, m]
theorem packB_next {l : List Ent} {k : Nat} {e : Ent} {d : Nat} (he : l[k]? = some e) (hd : e.deg = d) (hd2 : d ≤ 64) (hn : e.name.size ≤ 20) (hnl : (bytesOf e.name).length = e.name.size) (hm : e.gens.length ≤ 16) :
    packB l k e d e.gens.length ++ chunk (bitsG e.gens) = packH l (k + 1) := by
  have h := pack_next he hd hd2 hn hnl hm
  have h1 : ∀ n, n < 256 → bigL n 1 = [n] := fun n hn => bigL_one hn
  rw [h1 _ (by omega), h1 _ (by omega), h1 _ (by omega)] at h
  rw [← h]
  unfold packB
  simp
theorem chunk_take {l : List Nat} {s : Nat} (h : s < (l.length + 7) / 8) : (chunk l).take (s + 1) = (chunk l).take s ++ [val l s 8] := by
  rw [List.take_add_one]
  congr 1
  simp [chunk, h]
theorem pad_get {l : List Nat} {t i : Nat} : (l ++ List.replicate t 0)[i]?.getD 0 = l[i]?.getD 0 := by
  by_cases h : i < l.length
  · rw [List.getElem?_append_left h]
  · rw [List.getElem?_append_right (by omega), List.getElem?_eq_none (l := l) (by omega), List.getElem?_replicate]
    split <;> rfl
set_option maxRecDepth 100000 in
set_option maxHeartbeats 8000000 in
theorem rpack_ok {w : World} {a : Option Addr} {c : Nat} {l : List Ent} (h : Ents w a l) (hk : chk l = 0) :
    Calls Tryd.prog 10 #[.slice a l.length c] w (Packed l w) := by
  have h200 : l.length ≤ 200 := by
    unfold chk at hk
    split at hk
    · omega
    · omega
  have hall : ∀ e ∈ l, okName (bytesOf e.name) = true ∧ chkGroup e.deg e.gens = 0 := by
    unfold chk at hk
    split at hk
    · omega
    · exact chk_all hk
  have hc := rcheck_calls (c := c) h
  rw [hk] at hc
  have hm := h.len
  obtain ⟨n, hn⟩ : ∃ n, l.length = n := ⟨_, rfl⟩
  rw [hn] at hm h200 hc ⊢
  have H := Lib.hid h
  have Hc := Lib.hid hc
  have Hall := Lib.hid (And.intro hall hn)
  have Hlt := Lib.hid (fun x hx => packAll_lt hk x (List.mem_append_left _ hx) : ∀ x ∈ packBody l, x < 256)
  obtain ⟨i5, hi5, hz5, hs5, hb5⟩ := info_parts Tryd.info5
  have I5 := Lib.hid (And.intro hi5 (And.intro hz5 (And.intro hs5 hb5)))
  obtain ⟨i3, hi3, hz3, hs3, hb3⟩ := info_parts Tryd.info3
  have I3 := Lib.hid (And.intro hi3 (And.intro hz3 (And.intro hs3 hb3)))
  clear h hc hall hk hn hi5 hz5 hs5 hb5 hi3 hz3 hs3 hb3
  have kc := fun (w : World) (C : Array Value) (n c : Nat) => Lib.run_convert_bytes_const (P := Tryd.prog) w 23 5 C n c Tryd.underlying23 Tryd.underlying5
  go_enter Tryd.func10, Tryd.ntmps10
  go_wp2_with (first | (go_at_call 12; refine Hc.out.mono ?_; rintro e w1 ⟨rfl, hb1⟩; have HB1 := Lib.hid hb1; have hsz1 := hb1.size; clear hb1) | (at_builtin; refine wpList_append_grows _ rfl (.tmp 21) (.tmp 29) 23 rfl 5 i5 (.int .u8 0) 1 1 Tryd.underlying23 I5.out.1 I5.out.2.1 I5.out.2.2.1 I5.out.2.2.2 rfl (by omega) (some ⟨w1.heap.size, 0, none⟩) 4 4 (byts [67, 71, 76, 49]) rfl (by intro h; cases h) rfl (fun b hb => by cases hb; exact (lit2 w1 _ _).1) ⟨w1.heap.size + 1, 0, none⟩ 2 2 [.int .u8 ((n : Int) / 256), .int .u8 (n : Int)] rfl rfl (lit2 w1 _ _).2 (by intro y hy; simp only [List.mem_cons, List.not_mem_nil, or_false] at hy; rcases hy with rfl | rfl <;> rfl) (by omega) (by unfold maxLen; omega) (by omega) ?_; intro v2 w2 h2 h3; have H2 := Lib.hid (And.intro h2 h3); clear h2 h3))
  have hP : RPSt w w2 v2 (packH l 0) := by
    have e1 : byts [67, 71, 76, 49] ++ [.int .u8 ((n : Int) / 256), .int .u8 (n : Int)] = byts (packH l 0) := by
      unfold packH byts
      rw [Hall.out.2]
      simp
      omega
    have h2 := H2.out.1
    rw [e1] at h2
    refine ⟨Own.mono (B := _) (show Own w2 _ v2 5 (byts (packH l 0)) from h2) (by simp; omega), ?_⟩
    have hb : Below w.heap.size w ((w1.alloc (.cells #[.int .u8 67, .int .u8 71, .int .u8 76, .int .u8 49] 5 (4, 5))).alloc (.cells #[.int .u8 ((n : Int) / 256), .int .u8 (n : Int)] 5)) := (HB1.out.alloc hsz1 _).alloc (by simp; omega) _
    exact below_grownO' hb H2.out.2 (fun q e => by cases e)
  clear H2
  go_loopw [5, 6] (fun u5 i wr => ∃ (k : Nat), k ≤ n ∧ i = .int .i64 (k : Int) ∧ RPSt w wr u5 (packH l k)) (fun _ i _ => n - (intOf i).toNat)
  case atStart => exact ⟨0, Nat.zero_le _, rfl, hP⟩
  case round =>
    clear hP
    obtain ⟨k, hk, rfl, hP⟩ := hrel
    by_cases hlt : k < n
    · have hkn : k < l.length := by rw [Hall.out.2]; exact hlt
      obtain ⟨e, he⟩ : ∃ e, l[k]? = some e := ⟨_, List.getElem?_eq_getElem hkn⟩
      obtain ⟨B, o, g, cg, rfl, hBl, c1, c2, c3, hr⟩ := H.out.at_ k e he
      have hb := hP.below
      have HC1 := Lib.hid (And.intro c1 (And.intro c2 c3))
      replace c1 := (hb.cell (p := ⟨B, o + k * 3, none⟩) hBl).trans c1
      replace c2 := (hb.cell (p := ⟨B, o + k * 3 + 1, none⟩) hBl).trans c2
      replace c3 := (hb.cell (p := ⟨B, o + k * 3 + 2, none⟩) hBl).trans c3
      have hBr := Nat.lt_of_lt_of_le hBl hb.size
      obtain ⟨hok, hgz⟩ := Hall.out.1 e (List.mem_of_getElem? he)
      obtain ⟨hd1, hd2, hmg, hgens⟩ := chkGroup_ok.1 hgz
      have hnl := okName_len hok
      have hnls : (bytesOf e.name).length = e.name.size := by unfold bytesOf; simp
      rw [hnls] at hnl
      obtain ⟨d, hd⟩ : ∃ d : Nat, e.deg = d := ⟨e.deg.toNat, by omega⟩
      rw [hd] at hd1 hd2 c2
      have hd2' : d ≤ 64 := by omega
      obtain ⟨m, hm2⟩ : ∃ m, e.gens.length = m := ⟨_, rfl⟩
      rw [hm2] at hmg c3
      have hxl : (packH l k).length ≤ 300000 := by
        have h1 := flat_len (es := l.take k) (fun x hx => by have := Hall.out.1 x (List.mem_of_mem_take hx); exact packEnt_len this.1 this.2)
        rw [List.length_take] at h1
        simp only [packH, List.length_append, List.length_cons, List.length_nil]
        have : (min k l.length) * 1000 ≤ 200 * 1000 := Nat.mul_le_mul_right _ (by omega)
        omega
      have hps : w.heap.size ≤ wr.heap.size := hb.size
      have HK := Lib.hid (And.intro hP (And.intro he (And.intro hr (And.intro hgens (And.intro hd (And.intro hm2 (And.intro hnls hxl)))))))
      clear hP hb he hr hgens hd hm2 hnls hxl hok hgz hkn
      go_upto_region 9 with (fail)
      have x0 : (wr.alloc (.cells #[.int .i64 (d : Int), .slice g m cg] 44)).cell? ⟨wr.heap.size, 0, none⟩ = some (.int .i64 (d : Int)) := by simp
      have x1 : (wr.alloc (.cells #[.int .i64 (d : Int), .slice g m cg] 44)).cell? ⟨wr.heap.size, 1, none⟩ = some (.slice g m cg) := by simp
      have hXp : u5.ownBlock ≠ some wr.heap.size := fun h => by
        rcases HK.out.1.own.blk with e | ⟨g', _, e, _, hl, _⟩
        · rw [e] at h; cases h
        · rw [e] at h; cases h; omega
      have hPx : RPSt w (wr.alloc (.cells #[.int .i64 (d : Int), .slice g m cg] 44)) u5 (packH l k) := ⟨HK.out.1.own.alloc _, HK.out.1.below.alloc HK.out.1.below.size _⟩
      have hBr' := Nat.lt_of_lt_of_le hBl hPx.below.size
      have HX0 := Lib.hid (And.intro x0 x1)
      replace HK := Lib.hid HK.out.2
      have c1' := (hPx.below.cell (p := ⟨B, o + k * 3, none⟩) hBl).trans (HC1.out.1)
      generalize wr.alloc (.cells #[.int .i64 (d : Int), .slice g m cg] 44) = wx at *
      generalize wr.heap.size = X at *
      clear c1 c2 c3 hBr hps
      have hxl := HK.out.2.2.2.2.2.2
      have hnls := HK.out.2.2.2.2.2.1
      have hL1 : (byts (packH l k)).length < 1099511627776 := by rw [byts_len]; omega
      have hBx : w.heap.size ≤ wx.heap.size := hPx.below.size
      have HP := Lib.hid (And.intro hPx (And.intro hXp (And.intro hL1 (And.intro hxl hnls))))
      clear hPx hXp hL1 hxl hnls
      go_upto_region 10 with (at_builtin; refine app1 rfl (.tmp 42) (.tmp 50) 23 5 rfl i5 (.int .u8 0) 1 Tryd.underlying23 I5.out.1 I5.out.2.1 I5.out.2.2.1 I5.out.2.2.2 rfl (by omega) w.heap.size (.int .u8 (e.name.size : Int)) u5 (byts (packH l k)) rfl HP.out.1.own rfl rfl HP.out.2.2.1 hBx ?_; intro v3 w3 h2 h3 h4; have H3 := Lib.hid (RowTo.mk h2 h3 h4); clear h2 h3 h4)
      have h3 : RowTo wx w3 w.heap.size 5 u5 v3 (byts (packH l k ++ [e.name.size])) := by
        have := H3.out
        rwa [show byts (packH l k) ++ [Value.int .u8 (e.name.size : Int)] = byts (packH l k ++ [e.name.size]) by rw [byts_app]; rfl] at this
      have hb3 : Below w.heap.size w w3 := HP.out.1.below.trans (h3.below hBx HP.out.1.own.ge)
      have y1 := (hb3.cell (p := ⟨B, o + k * 3, none⟩) hBl).trans HC1.out.1
      have hBr3 := Nat.lt_of_lt_of_le hBl hb3.size
      have hb3s := hb3.size
      replace H3 := Lib.hid h3
      clear h3 hb3 c1' x0 x1 hBr'
      go_upto_region 11 with (at_builtin; refine appS rfl (.tmp 52) (.tmp 57) rfl w.heap.size v3 (packH l k ++ [e.name.size]) rfl H3.out.own e.name rfl (by simp) (by have := HP.out.2.2.2.1; simp only [List.length_append, List.length_singleton]; omega) hb3s ?_; intro v4 w4 h2; have H4 := Lib.hid (H3.out.trans h2); clear h2)
      have x0 := H4.out.cellK HP.out.2.1 HX0.out.1
      have x1 := H4.out.cellK HP.out.2.1 HX0.out.2
      have hL4 : (byts (packH l k ++ [e.name.size] ++ bytesOf e.name)).length + 2 < 1099511627776 := by
        rw [byts_len]; have := HP.out.2.2.2.1; have := HP.out.2.2.2.2; simp only [List.length_append, List.length_singleton]; omega
      have HL4 := Lib.hid hL4
      have hb4 : w.heap.size ≤ w4.heap.size := Nat.le_trans hBx H4.out.size
      clear hL4 y1 hBr3 hb3s
      have hn4 := World.news_of_block (heap_alloc_new w4 (.cells #[.int .u8 (d : Int), .int .u8 (m : Int)] 5))
      have HN4 := Lib.hid hn4
      clear hn4
      go_upto_region 12 with (at_builtin; refine appN rfl (.tmp 59) (.tmp 67) 23 5 rfl i5 (.int .u8 0) 1 Tryd.underlying23 I5.out.1 I5.out.2.1 I5.out.2.2.1 I5.out.2.2.2 rfl (by omega) w.heap.size v4 (byts (packH l k ++ [e.name.size] ++ bytesOf e.name)) [.int .u8 (d : Int), .int .u8 (m : Int)] rfl (H4.out.own.alloc _) w4.heap.size 0 2 2 rfl rfl (fun j y hy => by have := HN4.out j y hy; rw [add_zero_addr] at this; exact this) (by intro y hy; simp only [List.mem_cons, List.not_mem_nil, or_false] at hy; rcases hy with rfl | rfl <;> rfl) HL4.out (by rw [World.size_alloc]; omega) ?_; intro v5 w5 h2 h3 h4; have H5 := Lib.hid (H4.out.trans ((RowTo.mk h2 h3 h4).left (grown_alloc w4 _ none))); clear h2 h3 h4)
      have x0 := H5.out.cellK HP.out.2.1 HX0.out.1
      have x1 := H5.out.cellK HP.out.2.1 HX0.out.2
      have e5 : byts (packH l k ++ [e.name.size] ++ bytesOf e.name) ++ [Value.int .u8 (d : Int), Value.int .u8 (m : Int)] = byts (packB l k e d m) := by
        unfold packB; rw [byts_app (packH l k ++ [e.name.size] ++ bytesOf e.name)]; rfl
      have h5 := H5.out
      rw [e5] at h5
      have hb5 : Below w.heap.size w w5 := HP.out.1.below.trans (h5.below hBx HP.out.1.own.ge)
      have hbase : (packB l k e d m).length < 400000 := by
        have := HP.out.2.2.2.1; have := HP.out.2.2.2.2; unfold packB; simp only [List.length_append, List.length_singleton, List.length_cons, List.length_nil]; omega
      have hXw : X < w5.heap.size := block_lt_of_cell x0
      replace H5 := Lib.hid (And.intro h5 (And.intro hb5 hbase))
      replace HX0 := Lib.hid (And.intro x0 x1)
      clear e5 h5 hb5 hbase x0 x1 HL4 HN4 H4 H3 hb4
      have hB5 : w.heap.size ≤ w5.heap.size := H5.out.2.1.size
      go_wp2_with fail
      go_loopw [8, 9] (fun u8 u9 wy => ∃ j : Nat, j ≤ m ∧ u9 = .int .i64 (j : Int) ∧ Own wy w5.heap.size u8 3 (nats (bitsG (e.gens.take j))) ∧ Below w5.heap.size w5 wy) (fun _ u9 _ => m - (intOf u9).toNat)
      case atStart => exact ⟨0, Nat.zero_le _, rfl, by simp [bitsG, nats, ints]; exact Own.nil _ _ _, Below.refl _ _⟩
      case round =>
        obtain ⟨j, hj, rfl, hO, hbj⟩ := hrel
        obtain ⟨wj, rfl⟩ : ∃ wj, wj = wr := ⟨_, rfl⟩
        have x1 := (hbj.cell (p := ⟨X, 1, none⟩) hXw).trans HX0.out.2
        have hBj : Below w.heap.size w wj := H5.out.2.1.trans (hbj.mono hB5)
        by_cases hjm : j < m
        · have hjg : j < e.gens.length := by rw [HK.out.2.2.2.2.1]; exact hjm
          obtain ⟨gb, go, b, cb, rfl, hgl, hcg, hi, hcb⟩ := HK.out.2.1.at_ hjg
          obtain ⟨q, hq⟩ : ∃ q, e.gens[j]? = some q := ⟨_, List.getElem?_eq_getElem hjg⟩
          rw [hq, Option.getD_some] at hcg hi hcb
          have hql : q.length = d := by
            have h1 := (HK.out.2.2.1 q (List.mem_of_getElem? hq)).1
            have h2 := HK.out.2.2.2.1
            omega
          have hdig := rdigits_calls (c := cb) (hi.below hBj) (by omega) (by omega)
          rw [hql] at hcg hcb hdig
          replace hcg := (hBj.cell (p := ⟨gb, go + j, none⟩) hgl).trans hcg
          have hgl' := Nat.lt_of_lt_of_le hgl hBj.size
          have HD := Lib.hid hdig
          have HJ := Lib.hid (And.intro hq (And.intro hql (And.intro hO hbj)))
          have hsj := hbj.size
          clear hdig hq hql hi hO hbj hBj hjg
          go_wp2_with (go_at_call 27; refine HD.out.mono ?_; rintro e7 w7 ⟨g7, rfl, hO7, hb7⟩; have H7 := Lib.hid (And.intro hO7 hb7); clear hO7 hb7)
          have hg8 : u8.ownBlock ≠ some g7 := fun h => by
            rcases HJ.out.2.2.1.blk with e | ⟨g', _, e, _, hl, _⟩
            · rw [e] at h; cases h
            · rw [e] at h; cases h
              have := (H7.out.1.ge g7 rfl); omega
          have hO8 : Own w7 w5.heap.size u8 3 (nats (bitsG (e.gens.take j))) := HJ.out.2.2.1.kept (grown_below H7.out.2 none) (by
            rcases HJ.out.2.2.1.blk with e | ⟨g', _, e, _⟩
            · exact .inl e
            · right; rw [e]; simp)
          have hs7 : w5.heap.size ≤ w7.heap.size := Nat.le_trans hsj H7.out.2.size
          have hb57 : Below w5.heap.size w5 w7 := HJ.out.2.2.2.trans (H7.out.2.mono hsj)
          have HO8 := Lib.hid (And.intro hO8 (And.intro hg8 hb57))
          clear hO8 hg8 hb57 x1 hcg hgl'
          go_loopw [8, 11] (fun v8 u11 wz => ∃ r : Nat, r ≤ d ∧ u11 = .int .i64 (r : Int) ∧ RowTo w7 wz w5.heap.size 3 u8 v8 (nats (bitsG (e.gens.take j) ++ bitsK (digs q) r))) (fun _ u11 _ => d - (intOf u11).toNat)
          case atStart => exact ⟨0, Nat.zero_le _, rfl, by simpa [bitsK] using RowTo.refl HO8.out.1⟩
          case round =>
            obtain ⟨r, hr, rfl, hT⟩ := hrel
            have x0 : wr.cell? ⟨X, 0, none⟩ = some (.int .i64 (d : Int)) := hT.cellK (fun h => by have := HO8.out.1.ge X h; omega) ((HO8.out.2.2.cell (p := ⟨X, 0, none⟩) hXw).trans HX0.out.1)
            by_cases hrd : r < d
            · have hdl : (digs q).length = d := by rw [digs_len]; exact HJ.out.2.1
              have hcd0 := H7.out.1.cell r (by rw [nats_len, hdl]; exact hrd)
              rw [nats_get (by rw [hdl]; exact hrd)] at hcd0
              have hcd := hT.cellK HO8.out.2.1 hcd0
              obtain ⟨z, hz⟩ : ∃ z, (digs q)[r]?.getD 0 = z := ⟨_, rfl⟩
              have hz64 : z ≤ 64 := by
                rw [← hz, digs_get q r (by rw [HJ.out.2.1]; exact hrd)]
                have := cnt_le (q[r]?.getD 0) (q.drop r)
                rw [List.length_drop, HJ.out.2.1] at this
                omega
              rw [hz] at hcd
              have hwc : ∀ W, Calls Tryd.prog 29 #[.int .i64 (IntKind.i64.wrap ((d : Int) - (r : Int)))] W fun e w' => e = .returned (.int .i64 ((wid (d - r) : Nat) : Int)) ∧ w' = W := fun W => by
                rw [show (d : Int) - (r : Int) = ((d - r : Nat) : Int) by omega, IntWalk.i64_in _ (by omega)]
                exact rwidth_calls (d - r) W (by omega)
              have hwl := wid_le (d - r) (by omega)
              have hlen : (bitsG (e.gens.take j) ++ bitsK (digs q) r).length < 1000000000 := by
                have h1 := bitsG_take_len (gs := e.gens) (n := d) (m := j) (fun p hp => by have h1 := (HK.out.2.2.1 p hp).1; have h2 := HK.out.2.2.2.1; omega) hd2' (by have := HK.out.2.2.2.2.1; omega)
                have h2 := bitsK_len (ds := digs q) (k := r) (by rw [hdl]; omega) (by rw [hdl]; omega)
                rw [List.length_append]
                omega
              have hsz : w5.heap.size ≤ (wr.drewN 1).heap.size := Nat.le_trans hs7 hT.size
              have hbc := rbitsL_calls (w := wr.drewN 1) z (wid (d - r)) (hT.own.drewN 1) hsz (by omega) (by omega) hlen
              have hri : (r : Int) < d := by omega
              have HT := Lib.hid (And.intro hT (And.intro hz hdl))
              have HC := Lib.hid (And.intro (hwc wr.drew) hbc)
              clear hT hz hdl hwc hbc hcd0 hlen hsz
              go_wp2_with fail
              go_still_tail 10, (by kernel_rfl)
              still_call HC.out.1
              repeat still_step
              refine wpStill_nil ?_
              change wpList _ _ _ _ _ (wr.drewN 1)
              go_wp2_with fail
              refine HC.out.2.mono ?_
              rintro e9 w9 ⟨v9, rfl, hrow⟩
              have HR := Lib.hid hrow
              clear hrow
              go_wp2_with fail
              refine ⟨⟨r + 1, by omega, by go_num, ?_⟩, by simp [intOf]; omega⟩
              have h9 := HT.out.1.trans (HR.out.left (grown_drewN wr 1 none))
              rw [List.append_assoc, ← HT.out.2.1] at h9
              rw [bitsK, HT.out.2.2]
              exact h9
            · obtain rfl : r = d := by omega
              have hdl : (digs q).length = r := by rw [digs_len]; exact HJ.out.2.1
              have hkk : bitsK (digs q) r = bitsD (digs q) := by
                have := bitsK_all (digs q)
                rwa [hdl] at this
              rw [hkk, ← bitsG_take HJ.out.1] at hT
              have HT := Lib.hid hT
              clear hT hkk hdl
              go_wp2_with fail
              exact ⟨⟨j + 1, by omega, by go_num, HT.out.own, HO8.out.2.2.trans (HT.out.below hs7 HO8.out.1.ge)⟩, by simp [intOf]; omega⟩
        · obtain rfl : j = m := by omega
          have htk : e.gens.take j = e.gens := List.take_of_length_le (by rw [HK.out.2.2.2.2.1]; exact Nat.le_refl _)
          rw [htk] at hO
          have hbits := bitsG_lt e.gens
          have hTl : (bitsG e.gens).length ≤ 6400 := by
            have := bitsG_take_len (gs := e.gens) (n := d) (m := j) (fun p hp => by have h1 := (HK.out.2.2.1 p hp).1; have h2 := HK.out.2.2.2.1; omega) hd2' (by have := HK.out.2.2.2.2.1; omega)
            rwa [htk] at this
          obtain ⟨L, hL⟩ : ∃ L, bitsG e.gens = L := ⟨_, rfl⟩
          rw [hL] at hO hbits hTl
          have HO := Lib.hid (And.intro hO (And.intro hbj (And.intro hL hbits)))
          obtain ⟨T, hT⟩ : ∃ T, L.length = T := ⟨_, rfl⟩
          rw [hT] at hTl
          obtain ⟨Pd, hPd⟩ : ∃ Pd, (8 - T % 8) % 8 = Pd := ⟨_, rfl⟩
          have HT := Lib.hid (And.intro hT hPd)
          have hjmi : ¬ ((j : Int) < (j : Int)) := by omega
          clear htk hO hbits hL hbj hBj hT hPd hjm
          go_wp2_with fail
          go_loopw [8] (fun v8 wy => ∃ t : Nat, t ≤ Pd ∧ Own wy w5.heap.size v8 3 (nats (L ++ List.replicate t 0)) ∧ Below w5.heap.size w5 wy) (fun v8 _ => T + Pd - lenV v8)
          case atStart => exact ⟨0, Nat.zero_le _, by simpa using HO.out.1, HO.out.2.1⟩
          case round =>
            obtain ⟨t, ht, hO, hby⟩ := hrel
            have hlv := hO.lenV
            have hlen : (nats (L ++ List.replicate t 0)).length = T + t := by rw [nats_len, List.length_append, List.length_replicate, HT.out.1]
            rw [hlen] at hlv
            obtain ⟨a8, c8, e8, hr8⟩ := hO.row (by rw [hlen]; unfold maxLen; have := HT.out.2; omega)
            rw [hlen] at e8
            obtain ⟨N, hN⟩ : ∃ N, T + t = N := ⟨_, rfl⟩
            rw [hN] at e8 hlv hlen
            obtain ⟨r, hr⟩ : ∃ r, N % 8 = r := ⟨_, rfl⟩
            have e2 : (N : Int).tmod 8 = (r : Int) := by rw [Int.tmod_eq_emod_of_nonneg (by omega)]; omega
            have e4 : (N : Int) % 8 = (r : Int) := by omega
            by_cases htp : t < Pd
            · have hr0 : ((r : Int) != 0) = true := by simp; have := HT.out.2; omega
              have hsz : w5.heap.size ≤ wr.heap.size := hby.size
              have HY := Lib.hid (And.intro hO (And.intro hby (And.intro hlen (And.intro hN (And.intro hr e8)))))
              have HL9 := Lib.hid (show (nats (L ++ List.replicate t 0)).length < 1099511627776 by rw [hlen]; have := HT.out.2; omega)
              subst e8
              clear hO hby hlen hN hr hr8 hlv
              go_wp2_with (at_builtin; refine app1 rfl (.tmp 103) (.tmp 104) 56 3 rfl i3 (.int .i64 0) 8 Tryd.underlying56 I3.out.1 I3.out.2.1 I3.out.2.2.1 I3.out.2.2.2 rfl (by omega) w5.heap.size (.int .i64 0) (.slice a8 N c8) (nats (L ++ List.replicate t 0)) rfl HY.out.1 rfl rfl HL9.out hsz ?_; intro v9 w9 h2 h3 h4; have H9 := Lib.hid (RowTo.mk h2 h3 h4); clear h2 h3 h4)
              have h9 : Own w9 w5.heap.size v9 3 (nats (L ++ List.replicate (t + 1) 0)) := by
                have := H9.out.own
                rwa [show nats (L ++ List.replicate t 0) ++ [Value.int .i64 0] = nats (L ++ List.replicate (t + 1) 0) by rw [List.replicate_succ', ← List.append_assoc, nats_app (L ++ List.replicate t 0)]; rfl] at this
              refine ⟨⟨t + 1, by omega, h9, HY.out.2.1.trans (H9.out.below hsz HY.out.1.ge)⟩, ?_⟩
              have hl9 := h9.lenV
              rw [nats_len, List.length_append, List.length_replicate, HT.out.1] at hl9
              have hl8 : lenV (.slice a8 N c8) = N := rfl
              simp only [Array.getD_eq_getD_getElem?] at *
              have hNN := HY.out.2.2.2.1
              first | (rw [hl9, hl8]; omega) | (simp; omega)
            · obtain rfl : t = Pd := by omega
              have hr0 : ((r : Int) != 0) = false := by simp; have := HT.out.2; omega
              have hN8 : ∃ Q, N = 8 * Q ∧ Q = (T + 7) / 8 := ⟨N / 8, by have := HT.out.2; omega, by have := HT.out.2; omega⟩
              obtain ⟨Q, hNQ, hQ⟩ := hN8
              have HY := Lib.hid (And.intro hO (And.intro hby (And.intro hlen (And.intro hQ hr8))))
              have hNi : (N : Int) = 8 * (Q : Int) := by omega
              subst e8
              have hs5 : Own wr w.heap.size v5 5 (byts (packB l k e d j)) := H5.out.1.own.kept (grown_below hby none) (by
                rcases H5.out.1.own.blk with e | ⟨g', _, e, _⟩
                · exact .inl e
                · right; rw [e]; simp)
              have HS5 := Lib.hid hs5
              have hQs : Q ≤ 1000 := by omega
              clear hO hby hlen hr8 hlv hs5 hr hQ
              obtain ⟨wz, rfl⟩ : ∃ wz, wz = wr := ⟨_, rfl⟩
              have hBz : w.heap.size ≤ wz.heap.size := Nat.le_trans hB5 HY.out.2.1.size
              go_wp2_with fail
              go_loopw [5, 12] (fun u5' u12 wy => ∃ s : Nat, s ≤ Q ∧ u12 = .int .i64 (((8 * s : Nat)) : Int) ∧ RowTo wz wy w.heap.size 5 v5 u5' (byts (packB l k e d j ++ (chunk L).take s))) (fun _ u12 _ => 8 * Q - (intOf u12).toNat)
              case atStart => exact ⟨0, Nat.zero_le _, rfl, by simpa using RowTo.refl HS5.out⟩
              case round =>
                obtain ⟨s, hs, rfl, hR⟩ := hrel
                have hlen : (chunk L).length = Q := by rw [chunk_len, HT.out.1]; exact HY.out.2.2.2.1.symm
                by_cases hsQ : s < Q
                · have hO8 : Own wr w5.heap.size (.slice a8 N c8) 3 (nats (L ++ List.replicate t 0)) := HY.out.1.kept hR.gr (HY.out.1.ne_type HS5.out (by decide))
                  obtain ⟨g8, rfl, _, hg8, _⟩ := hO8.at_form (by omega)
                  have hcell : ∀ i, i < 8 → wr.cell? ⟨g8, 8 * s + i, none⟩ = some (.int .i64 ((L[8 * s + i]?.getD 0 : Nat) : Int)) := fun i hi => by
                    rw [hO8.cell (8 * s + i) (by rw [HY.out.2.2.1]; omega), nats_get (by rw [List.length_append, List.length_replicate, HT.out.1]; have := HT.out.2; omega), pad_get]
                  have hck := chunk_take (l := L) (s := s) (by rw [HT.out.1, ← HY.out.2.2.2.1]; exact hsQ)
                  have hvl := fun m => val_lt HO.out.2.2.2 (k := s) m
                  have hL5 : (byts (packB l k e d j ++ (chunk L).take s)).length < 1099511627776 := by
                    rw [byts_len, List.length_append, List.length_take, hlen]; have := H5.out.2.2; omega
                  have hsz : w.heap.size ≤ wr.heap.size := Nat.le_trans hBz hR.size
                  have HR := Lib.hid (And.intro hR (And.intro hck hL5))
                  have HC := Lib.hid (And.intro hcell hvl)
                  clear hR hck hL5 hcell hvl hO8 hlen
                  go_wp2_with fail
                  go_loop [13, 14] (fun u13 u14 => ∃ i : Nat, i ≤ 8 ∧ u14 = .int .i64 (i : Int) ∧ u13 = .int .i64 ((val L s i : Nat) : Int)) (fun _ u14 => 8 - (intOf u14).toNat)
                  case atStart => exact ⟨0, by omega, rfl, rfl⟩
                  case round =>
                    obtain ⟨i, hi, rfl, rfl⟩ := hrel
                    by_cases hi8 : i < 8
                    · have hc := HC.out.1 i hi8
                      have hv : val L s (i + 1) = 2 * val L s i + L[8 * s + i]?.getD 0 := rfl
                      have hv1 := HC.out.2 i
                      have hp : 2 ^ i ≤ 2 ^ 8 := Nat.pow_le_pow_right (by omega) (by omega)
                      have hb2 : L[8 * s + i]?.getD 0 < 2 := by
                        by_cases h : 8 * s + i < L.length
                        · rw [List.getElem?_eq_getElem h]; exact HO.out.2.2.2 _ (List.getElem_mem _)
                        · rw [List.getElem?_eq_none (by omega)]; simp
                      obtain ⟨x, hx⟩ : ∃ x, L[8 * s + i]?.getD 0 = x := ⟨_, rfl⟩
                      obtain ⟨y, hy⟩ : ∃ y, val L s i = y := ⟨_, rfl⟩
                      rw [hx] at hc hv hb2
                      rw [hy] at hv hv1 ⊢
                      have hy9 : y < 256 := Nat.lt_of_lt_of_le hv1 hp
                      have hii : (i : Int) < 8 := by omega
                      have hw1 : IntKind.i64.wrap (8 * (s : Int) + i) = 8 * (s : Int) + i := IntWalk.i64_in _ (by omega)
                      have hw2 : IntKind.i64.wrap (((8 * s : Nat) : Int) + i) = ((8 * s + i : Nat) : Int) := by rw [IntWalk.i64_in _ (by omega)]; omega
                      have hb3 : ((8 * s + i : Nat) : Int) < N := by omega
                      have hb4 : 8 * (s : Int) + i < N := by omega
                      have hb5 : (0 : Int) ≤ 8 * (s : Int) + i := by omega
                      have hb6 : (8 * (s : Int) + i).toNat = 8 * s + i := by omega
                      have HV := Lib.hid hv
                      clear hv hv1 hp hx hy
                      go_wp2_with fail
                      go_round
                      case rel =>
                        refine ⟨i + 1, by omega, by go_num, ?_⟩
                        rw [HV.out]
                        go_num
                      case measure => simp [intOf]; omega
                    · obtain rfl : i = 8 := by omega
                      have hv1 := HC.out.2 8
                      obtain ⟨y, hy⟩ : ∃ y, val L s 8 = y := ⟨_, rfl⟩
                      rw [hy] at hv1 ⊢
                      have hy9 : y < 256 := hv1
                      have HYY := Lib.hid hy
                      clear hv1 hy
                      go_wp2_with (at_builtin; refine app1 rfl (.tmp 125) (.tmp 128) 23 5 rfl i5 (.int .u8 0) 1 Tryd.underlying23 I5.out.1 I5.out.2.1 I5.out.2.2.1 I5.out.2.2.2 rfl (by omega) w.heap.size (.int .u8 (y : Int)) _ (byts (packB l k e d j ++ (chunk L).take s)) rfl HR.out.1.own rfl rfl HR.out.2.2 hsz ?_; intro v9 w9 h2 h3 h4; have H9 := Lib.hid (RowTo.mk h2 h3 h4); clear h2 h3 h4)
                      refine ⟨⟨s + 1, by omega, by go_num, ?_⟩, by simp [intOf]; omega⟩
                      have h9 := HR.out.1.trans H9.out
                      rw [HR.out.2.1, HYY.out, ← List.append_assoc, byts_app (packB l k e d j ++ (chunk L).take s)]
                      exact h9
                · obtain rfl : s = Q := by omega
                  rw [List.take_of_length_le (by rw [hlen]; exact Nat.le_refl _)] at hR
                  have HR := Lib.hid hR
                  clear hR hlen
                  go_wp2_with fail
                  refine ⟨⟨k + 1, by omega, by go_num, ?_⟩, by simp [intOf]; omega⟩
                  have hpn := packB_next HK.out.1 HK.out.2.2.2.1 (by omega) (by omega) HK.out.2.2.2.2.2.1 (by rw [HK.out.2.2.2.2.1]; exact hmg)
                  rw [HK.out.2.2.2.2.1, HO.out.2.2.1] at hpn
                  rw [← hpn]
                  exact ⟨HR.out.own, H5.out.2.1.trans ((HY.out.2.1.mono hB5).trans (HR.out.below hBz HS5.out.ge))⟩
    · obtain rfl : k = n := by omega
      have hall : packH l k = packBody l := by
        unfold packH packBody
        rw [List.take_of_length_le (by rw [Hall.out.2]; exact Nat.le_refl _)]
      rw [hall] at hP
      have hxl : (packBody l).length ≤ 300000 := by
        have h1 := flat_len (es := l) (fun x hx => by have := Hall.out.1 x hx; exact packEnt_len this.1 this.2)
        rw [Hall.out.2] at h1
        simp only [packBody, List.length_append, List.length_cons, List.length_nil]
        omega
      obtain ⟨g8, cap8, rfl, hg8, _⟩ := hP.own.form (by simp [byts, packBody])
      rw [byts_len]
      have hb : Byts wr (some ⟨g8, 0, none⟩) (packBody l) := by
        obtain ⟨a9, c9, e9, hr9⟩ := hP.own.row (by rw [byts_len]; unfold maxLen; omega)
        injection e9 with e1 e2 e3
        subst e1
        exact hr9
      have hsum := rsum_calls (c := cap8) hb Hlt.out
      have hsl := sumTo_lt (h := 7) (by omega) (packBody l)
      obtain ⟨S, hS⟩ : ∃ S, sumB (packBody l) = S := ⟨_, rfl⟩
      have hS2 : S < 4294967296 := by rw [← hS]; exact hsl
      rw [hS] at hsum
      have hP2 := hP
      have hoo := hP.own
      rw [byts_len] at hP2 hoo
      have hfour := rfour_calls S hoo hP.below.size hS2 (by omega)
      obtain ⟨N8, hN8⟩ : ∃ N8, (packBody l).length = N8 := ⟨_, rfl⟩
      rw [hN8] at hsum hfour hoo ⊢
      have HS := Lib.hid (And.intro hsum (And.intro hfour (And.intro hS (And.intro hoo hP.below))))
      clear hsum hfour hS hP hP2 hall hxl hg8 hb hsl hN8 hoo
      have hkk : ¬ ((k : Int) < (k : Int)) := by omega
      go_wp2_with fail
      refine HS.out.1.mono ?_
      rintro e9 w9 ⟨rfl, rfl⟩
      go_wp2_with fail
      refine HS.out.2.1.mono ?_
      rintro e9 w9 ⟨v9, rfl, hrow⟩
      have HR := Lib.hid hrow
      clear hrow
      go_wp2_with fail
      go_ret2
      refine ⟨v9, rfl, ?_, HS.out.2.2.2.2.trans (HR.out.below HS.out.2.2.2.2.size HS.out.2.2.2.1.ge)⟩
      have h := HR.out.own
      rw [← HS.out.2.2.1] at h
      exact h
end Go.Proofs.YtjjjnpolhbbepaaDoor
