/- Unpacking what was packed: plain. -/
import Derived.Test.YtjjjnpolhbbepaaDoorPlainBack
set_option linter.unusedSimpArgs false
set_option linter.unusedVariables false
namespace Go.Proofs.YtjjjnpolhbbepaaDoor.Plain
theorem nameOf_bytesOf (s : ByteArray) : nameOf (bytesOf s) = s := by
  unfold nameOf bytesOf
  rw [List.map_map, show (UInt8.ofNat ∘ UInt8.toNat) = id from funext fun x => by simp]
  simp
theorem bytesOf_nameOf {l : List Nat} (h : ∀ x ∈ l, x < 256) : bytesOf (nameOf l) = l := by
  unfold nameOf bytesOf
  rw [show (⟨(l.map UInt8.ofNat).toArray⟩ : ByteArray).data.toList = l.map UInt8.ofNat from by simp, List.map_map]
  conv => rhs; rw [← List.map_id l]
  exact List.map_congr_left fun x hx => by simpa using h x hx
theorem bytesOf_lt (s : ByteArray) : ∀ x ∈ bytesOf s, x < 256 := by
  intro x hx
  obtain ⟨y, _, rfl⟩ := List.mem_map.1 hx
  exact y.toNat_lt
theorem chkGens_ok {deg : Int} : ∀ {gens : List (List Int)}, chkGens deg gens = 0 ↔ ∀ p ∈ gens, chkPerm p = 0 ∧ (p.length : Int) = deg
  | [] => by simp [chkGens]
  | p :: ps => by
    rw [chkGens]
    by_cases h : chkPerm p = 0
    · rw [if_neg (by simpa using h)]
      by_cases h2 : (p.length : Int) = deg
      · rw [if_neg (by simpa using h2), chkGens_ok]
        simp [h, h2]
      · rw [if_pos h2]
        simp [h2]
    · rw [if_pos h]
      simp [h]
theorem chkPerm_ok {p : List Int} : chkPerm p = 0 ↔ 1 ≤ p.length ∧ p.length ≤ 64 ∧ fine p = true := by
  unfold chkPerm
  split
  · constructor
    · intro h; omega
    · rintro ⟨h1, h2, _⟩; omega
  · split
    · constructor
      · intro _; exact ⟨by omega, by omega, by assumption⟩
      · intro _; rfl
    · constructor
      · intro h; omega
      · rintro ⟨_, _, h⟩; contradiction
theorem chkGroup_ok {deg : Int} {gens : List (List Int)} : chkGroup deg gens = 0 ↔ 1 ≤ deg ∧ deg ≤ 64 ∧ gens.length ≤ 16 ∧ ∀ p ∈ gens, (p.length : Int) = deg ∧ fine p = true := by
  unfold chkGroup
  split
  · constructor
    · intro h; omega
    · rintro ⟨h1, h2, _⟩; omega
  · split
    · constructor
      · intro h; omega
      · rintro ⟨h1, h2, h3, _⟩; omega
    · rw [chkGens_ok]
      constructor
      · intro h
        refine ⟨by omega, by omega, by omega, fun p hp => ?_⟩
        have := h p hp
        rw [chkPerm_ok] at this
        exact ⟨this.2, this.1.2.2⟩
      · rintro ⟨h1, h2, h3, h⟩ p hp
        have := h p hp
        rw [chkPerm_ok]
        exact ⟨⟨by omega, by omega, this.2⟩, this.1⟩
/-- The generators, read back. -/
theorem gensF_bits {f : Nat → Nat} {n : Nat} (hn : n ≤ 64) : ∀ (gs : List (List Int)) (p : Nat), (∀ q ∈ gs, q.length = n ∧ fine q = true) → (∀ j, j < (bitsG gs).length → f (p + j) = (bitsG gs)[j]?.getD 0) → gensF f n p gs.length = some gs
  | [], p, _, _ => rfl
  | q :: gs, p, hq, hf => by
    obtain ⟨hql, hqf⟩ := hq q (by simp)
    have hsplit : bitsG (q :: gs) = bitsD (digs q) ++ bitsG gs := by simp [bitsG]
    have hlen : (bitsD (digs q)).length = totW n := by rw [bitsD_len, digs_len, hql]
    rw [hsplit] at hf
    have hp := perm_digs q (base n) (base_sorted n) (by rw [← hql]; exact (fine_iff q).1 hqf)
    have hd : digF f p n = digs q := by
      have := digF_bits (f := f) (digs q) p (by rw [digs_len]; omega) (fun i hi => by rw [digs_len] at hi ⊢; exact hp.2 i hi) (fun j hj => by
        rw [hf j (by rw [List.length_append]; omega), List.getElem?_append_left hj])
      rw [digs_len, hql] at this
      exact this
    rw [List.length_cons, gensF, hd, hp.1]
    simp only
    rw [gensF_bits hn gs _ (fun r hr => hq r (List.mem_cons_of_mem _ hr)) (fun j hj => by
      have := hf (totW n + j) (by rw [List.length_append]; omega)
      rw [Nat.add_assoc, this, List.getElem?_append_right (by omega), hlen, Nat.add_sub_cancel_left])]
    rfl
theorem getD_at (pre rest : List Nat) (j : Nat) : (pre ++ rest)[pre.length + j]? = rest[j]? := by
  rw [List.getElem?_append_right (by omega), Nat.add_sub_cancel_left]
theorem readF_zero {f : Nat → Nat} {p : Nat} : ∀ w, (∀ j, j < w → f (p + j) = 0) → readF f p w = 0
  | 0, _ => rfl
  | w + 1, h => by rw [readF, readF_zero w (fun j hj => h j (by omega)), h w (by omega)]
theorem entP_pack {pre post : List Nat} {e : Ent} {last : Option ByteArray} (hname : okName (bytesOf e.name) = true) (hord : (last.any fun l => leS e.name l) = false)
    (hg : chkGroup e.deg e.gens = 0) : entP (pre ++ (packEnt e ++ post)) pre.length last = .ok (e, pre.length + (packEnt e).length) := by
  obtain ⟨hd1, hd2, hm, hgens⟩ := chkGroup_ok.1 hg
  obtain ⟨d, hd⟩ : ∃ d : Nat, e.deg = d := ⟨e.deg.toNat, by omega⟩
  have hgl : ∀ q ∈ e.gens, q.length = d ∧ fine q = true := fun q hq => ⟨by have := (hgens q hq).1; omega, (hgens q hq).2⟩
  have hbl := bitsG_len e.gens (fun q hq => (hgl q hq).1)
  generalize hnm : bytesOf e.name = nm at hname
  have hpe : packEnt e = nm.length :: (nm ++ ([d, e.gens.length] ++ chunk (bitsG e.gens))) := by unfold packEnt; rw [hnm, hd]; simp
  have hcl : (chunk (bitsG e.gens)).length = (e.gens.length * totW d + 7) / 8 := by rw [chunk_len, hbl]
  have hlen : (packEnt e).length = 1 + nm.length + 2 + (e.gens.length * totW d + 7) / 8 := by rw [hpe]; simp [hcl]; omega
  have hL : (pre ++ (packEnt e ++ post)).length = pre.length + (packEnt e).length + post.length := by simp; omega
  have r0 : (pre ++ (packEnt e ++ post))[pre.length]?.getD 0 = nm.length := by
    rw [List.getElem?_append_right (Nat.le_refl _), Nat.sub_self, hpe]; simp
  have r1 : (pre ++ (packEnt e ++ post))[pre.length + 1 + nm.length]?.getD 0 = d := by
    rw [show pre.length + 1 + nm.length = pre.length + (nm.length + 1) by omega, getD_at, hpe]
    rw [List.cons_append, List.getElem?_cons_succ, List.append_assoc, List.getElem?_append_right (Nat.le_refl _), Nat.sub_self]; rfl
  have r2 : (pre ++ (packEnt e ++ post))[pre.length + 1 + nm.length + 1]?.getD 0 = e.gens.length := by
    rw [show pre.length + 1 + nm.length + 1 = pre.length + (nm.length + 1 + 1) by omega, getD_at, hpe]
    rw [List.cons_append, List.getElem?_cons_succ, List.append_assoc, List.getElem?_append_right (by omega), Nat.add_sub_cancel_left]; rfl
  have rn : ((pre ++ (packEnt e ++ post)).drop (pre.length + 1)).take nm.length = nm := by
    rw [List.drop_append, List.drop_eq_nil_of_le (by omega), List.nil_append, Nat.add_sub_cancel_left, hpe]
    simp
  have rb : ∀ p, p < 8 * ((e.gens.length * totW d + 7) / 8) → bitAt (pre ++ (packEnt e ++ post)) (pre.length + 1 + nm.length + 2) p = (bitsG e.gens)[p]?.getD 0 := by
    intro p hp
    have h1 : pre ++ (packEnt e ++ post) = (pre ++ (nm.length :: (nm ++ [d, e.gens.length]))) ++ (chunk (bitsG e.gens) ++ post) := by rw [hpe]; simp
    have h2 : pre.length + 1 + nm.length + 2 = (pre ++ (nm.length :: (nm ++ [d, e.gens.length]))).length := by simp; omega
    rw [h1, h2]
    exact chunk_bit (bitsG_lt _) (by rw [hbl]; exact hp)
  have hnn : nameOf nm = e.name := by rw [← hnm, nameOf_bytesOf]
  generalize pre ++ (packEnt e ++ post) = b at r0 r1 r2 rn rb hL ⊢
  unfold entP
  simp only [r0, r1, r2, rn, hname, hnn, hord]
  rw [if_neg (by omega), if_neg (by omega), if_neg (by simp), if_neg (by simp), if_neg (by omega), if_neg (by omega), if_neg (by omega)]
  rw [gensF_bits (by omega) e.gens 0 hgl (fun j hj => by rw [Nat.zero_add, rb j (by omega)])]
  simp only
  rw [if_neg]
  · rw [hlen, ← hd]
    simp only [Except.ok.injEq, Prod.mk.injEq, true_and]
    omega
  · simp only [ne_eq, Decidable.not_not]
    refine readF_zero _ fun j hj => ?_
    rw [rb _ (by omega), List.getElem?_eq_none (by omega)]; rfl
theorem entsA_pack : ∀ (es : List Ent) (pre : List Nat) (last : Option ByteArray) (acc : List Ent), chkFrom last es = 0 →
    entsA (pre ++ es.flatMap packEnt) pre.length last acc es.length = (acc ++ es, 0, 0)
  | [], pre, last, acc, _ => by simp [entsA]
  | e :: es, pre, last, acc, h => by
    rw [chkFrom] at h
    split at h
    · omega
    · rename_i h1
      split at h
      · omega
      · rename_i h2
        split at h
        · omega
        · rename_i h3
          have h1' : okName (bytesOf e.name) = true := by cases hh : okName (bytesOf e.name); exact absurd hh h1; rfl
          rw [List.length_cons, entsA, List.flatMap_cons, entP_pack h1' (by simpa using h2) (by simpa using h3)]
          simp only
          have := entsA_pack es (pre ++ packEnt e) (some e.name) (acc ++ [e]) h
          rw [List.append_assoc, List.length_append] at this
          rw [this]; simp
theorem four_len (n : Nat) : (four n).length = 4 := rfl
theorem pack_unpack {l : List Ent} (h : chk l = 0) : unpack (packAll l) = (l, 0, 0) := by
  unfold chk at h
  split at h
  · omega
  · rename_i h200
    have hlen : (packAll l).length = (packBody l).length + 4 := by simp [packAll, four]
    have hpos : 6 ≤ (packBody l).length := by simp [packBody]
    have hk : (packAll l)[4]?.getD 0 * 256 + (packAll l)[5]?.getD 0 = l.length := by simp [packAll, packBody]; omega
    unfold unpack
    rw [if_neg (by omega), if_neg (by simp [packAll, packBody]), hlen, show (packBody l).length + 4 - 4 = (packBody l).length by omega, if_neg, hk, if_neg h200]
    · rw [packAll, List.take_left' rfl]
      have := entsA_pack l [67, 71, 76, 49, l.length / 256 % 256, l.length % 256] none [] h
      exact this
    · rw [packAll, List.take_left' rfl, List.drop_left' rfl]; simp
/- Bytes of what is packed. -/
theorem chunk_lt {l : List Nat} (hb : ∀ b ∈ l, b < 2) : ∀ x ∈ chunk l, x < 256 := by
  intro x hx
  obtain ⟨k, _, rfl⟩ := List.mem_map.1 hx
  exact val_lt hb 8
theorem packAll_lt {l : List Ent} (h : chk l = 0) : ∀ x ∈ packAll l, x < 256 := by
  have hE : ∀ (es : List Ent) last, chkFrom last es = 0 → ∀ x ∈ es.flatMap packEnt, x < 256 := by
    intro es
    induction es with
    | nil => intro last _ x hx; simp at hx
    | cons e es ih =>
      intro last h x hx
      rw [chkFrom] at h
      split at h
      · omega
      · rename_i h1
        split at h
        · omega
        · split at h
          · omega
          · rename_i h3
            rw [List.flatMap_cons] at hx
            rcases List.mem_append.1 hx with hx | hx
            · obtain ⟨hd1, hd2, hm, _⟩ := chkGroup_ok.1 (by simpa using h3)
              have h1' : okName (bytesOf e.name) = true := by cases hh : okName (bytesOf e.name); exact absurd hh h1; rfl
              unfold okName at h1'
              simp only [Bool.and_eq_true, decide_eq_true_eq] at h1'
              unfold packEnt at hx
              rcases List.mem_cons.1 hx with rfl | hx
              · omega
              · rcases List.mem_append.1 hx with hx | hx
                · exact bytesOf_lt _ _ hx
                · rcases List.mem_append.1 hx with hx | hx
                  · simp at hx; omega
                  · exact chunk_lt (bitsG_lt _) _ hx
            · exact ih _ h x hx
  unfold chk at h
  split at h
  · omega
  · intro x hx
    unfold packAll packBody at hx
    rcases List.mem_append.1 hx with hx | hx
    · rcases List.mem_append.1 hx with hx | hx
      · simp at hx; omega
      · exact hE l none h x hx
    · simp [four] at hx; omega
end Go.Proofs.YtjjjnpolhbbepaaDoor.Plain
