/- Packing, step by step: plain. -/
import Derived.Test.YtjjjnpolhbbepaaDoorPlainTrip
set_option linter.unusedSimpArgs false
set_option linter.unusedVariables false
namespace Go.Proofs.YtjjjnpolhbbepaaDoor.Plain
def bitsK (ds : List Nat) : Nat → List Nat
  | 0 => []
  | k + 1 => bitsK ds k ++ bitsN (ds[k]?.getD 0) (wid (ds.length - k))
theorem bitsK_split (ds : List Nat) : ∀ k, k ≤ ds.length → bitsD ds = bitsK ds k ++ bitsD (ds.drop k)
  | 0, _ => by simp [bitsK]
  | k + 1, h => by
    rw [bitsK_split ds k (by omega), bitsK, List.drop_eq_getElem_cons (by omega), bitsD, List.getElem?_eq_getElem (by omega), List.append_assoc]
    simp only [List.length_drop, Option.getD_some]
    rw [show ds.length - (k + 1) + 1 = ds.length - k by omega]
theorem bitsK_all (ds : List Nat) : bitsK ds ds.length = bitsD ds := by
  rw [bitsK_split ds ds.length (Nat.le_refl _)]; simp [bitsD]
theorem totW_le : ∀ n, n ≤ 64 → totW n ≤ 400 := by decide +kernel
theorem wid_le : ∀ n, n ≤ 64 → wid n ≤ 6 := by decide +kernel
theorem bitsK_len {ds : List Nat} {k : Nat} (hk : k ≤ ds.length) (hl : ds.length ≤ 64) : (bitsK ds k).length ≤ 400 := by
  have h1 := bitsD_len ds
  rw [bitsK_split ds k hk, List.length_append] at h1
  have := totW_le ds.length hl
  omega
def cnt (v : Int) (l : List Int) : Nat := (l.filter fun u => decide (u < v)).length
theorem cnt_step (v : Int) (l : List Int) (j : Nat) (hj : j < l.length) : cnt v (l.take (j + 1)) = cnt v (l.take j) + if l[j]?.getD 0 < v then 1 else 0 := by
  unfold cnt
  rw [List.take_add_one, List.getElem?_eq_getElem hj, Option.toList_some, List.filter_append, List.length_append, Option.getD_some]
  by_cases h : l[j] < v <;> simp [List.filter_cons, h]
theorem cnt_le (v : Int) (l : List Int) : cnt v l ≤ l.length := List.length_filter_le _ _
theorem digs_get : ∀ (p : List Int) (i : Nat), i < p.length → (digs p)[i]?.getD 0 = cnt (p[i]?.getD 0) (p.drop i)
  | v :: r, 0, _ => by
    simp [digs, cnt, List.filter_cons]
  | v :: r, i + 1, h => by
    have := digs_get r i (by simpa using h)
    simpa [digs] using this
theorem bigL_one {n : Nat} (h : n < 256) : [n / 2 ^ (8 * 0) % 256] = [n] := by simp; omega
theorem chk_all : ∀ {l : List Ent} {last : Option ByteArray}, chkFrom last l = 0 → ∀ e ∈ l, okName (bytesOf e.name) = true ∧ chkGroup e.deg e.gens = 0
  | [], _, _, e, he => by simp at he
  | x :: l, last, h, e, he => by
    rw [chkFrom] at h
    split at h
    · omega
    · rename_i h1
      split at h
      · omega
      · split at h
        · omega
        · rename_i h3
          rcases List.mem_cons.1 he with rfl | he
          · exact ⟨by cases hh : okName (bytesOf e.name); exact absurd hh h1; rfl, by simpa using h3⟩
          · exact chk_all h e he
theorem okName_len {s : List Nat} (h : okName s = true) : 1 ≤ s.length ∧ s.length ≤ 20 := by
  unfold okName at h
  simp only [Bool.and_eq_true, decide_eq_true_eq] at h
  exact h.1
theorem packEnt_len {e : Ent} (h1 : okName (bytesOf e.name) = true) (h2 : chkGroup e.deg e.gens = 0) : (packEnt e).length ≤ 1000 := by
  obtain ⟨hd1, hd2, hm, hg⟩ := chkGroup_ok.1 h2
  have hn := okName_len h1
  obtain ⟨d, hd⟩ : ∃ d : Nat, e.deg = d := ⟨e.deg.toNat, by omega⟩
  have hb := bitsG_len (n := d) e.gens (fun p hp => by have := (hg p hp).1; omega)
  have ht := totW_le d (by omega)
  have hmul : e.gens.length * totW d ≤ 16 * 400 := Nat.mul_le_mul hm ht
  unfold packEnt
  simp only [List.length_cons, List.length_append, chunk_len, hb, List.length_nil]
  omega
theorem flat_len {es : List Ent} (h : ∀ e ∈ es, (packEnt e).length ≤ 1000) : (es.flatMap packEnt).length ≤ es.length * 1000 := by
  induction es with
  | nil => simp
  | cons e es ih =>
    have := h e (by simp)
    have := ih (fun x hx => h x (List.mem_cons_of_mem _ hx))
    rw [List.flatMap_cons, List.length_append, List.length_cons]
    omega
theorem flat_take {es : List Ent} {k : Nat} {e : Ent} (he : es[k]? = some e) : (es.take (k + 1)).flatMap packEnt = (es.take k).flatMap packEnt ++ packEnt e := by
  rw [List.take_add_one, he]; simp
theorem bitsG_take {gs : List (List Int)} {m : Nat} {p : List Int} (hp : gs[m]? = some p) : bitsG (gs.take (m + 1)) = bitsG (gs.take m) ++ bitsD (digs p) := by
  unfold bitsG
  rw [List.take_add_one, hp]; simp
theorem bitsG_take_len {gs : List (List Int)} {n m : Nat} (h : ∀ p ∈ gs, p.length = n) (hn : n ≤ 64) (hm : gs.length ≤ 16) : (bitsG (gs.take m)).length ≤ 6400 := by
  rw [bitsG_len (n := n) _ (fun p hp => h p (List.mem_of_mem_take hp))]
  have := totW_le n hn
  have h1 : (gs.take m).length ≤ 16 := by rw [List.length_take]; omega
  exact Nat.le_trans (Nat.mul_le_mul h1 this) (by omega)
end Go.Proofs.YtjjjnpolhbbepaaDoor.Plain
