/- Graphs and their texts: plain. -/
set_option linter.unusedSimpArgs false
set_option linter.unusedVariables false
namespace Go.Proofs.YtifkieopaoooeaaDoor.PlainG
structure Gr where
  n : Int
  es : List (Int × Int)
  cs : List Int
def bef (a b : Int × Int) : Bool := decide (a.1 < b.1) || (a.1 == b.1 && decide (a.2 < b.2))
def vert (n v : Int) : Bool := decide (0 ≤ v) && decide (v < n)
def chkE (n : Int) : Option (Int × Int) → List (Int × Int) → Int
  | _, [] => 0
  | last, x :: es =>
    if (vert n x.1 && vert n x.2) = false then 2
    else if x.2 ≤ x.1 then 3
    else if (last.any fun l => !bef l x) then 9
    else chkE n (some x) es
def okC (c : Int) : Bool := decide (0 ≤ c) && decide (c ≤ 99)
def chkC (n : Int) (cs : List Int) : Int := if (cs.length : Int) ≠ n then 3 else if cs.all okC then 0 else 2
def chkGr (g : Gr) : Int := if g.n < 0 ∨ 24 < g.n then 2 else if chkE g.n none g.es ≠ 0 then chkE g.n none g.es else chkC g.n g.cs
/-- A number below 100 as text. -/
def dec (n : Nat) : List Nat := if 9 < n then [48 + n / 10, 48 + n % 10] else [48 + n]
def edgeT (x : Int × Int) : List Nat := 32 :: (dec x.1.toNat ++ 45 :: dec x.2.toNat)
def colsT (cs : List Int) : List Nat := if cs.all (· == 0) then [] else 32 :: 58 :: cs.flatMap fun c => 32 :: dec c.toNat
def textG (g : Gr) : List Nat := dec g.n.toNat ++ (g.es.flatMap edgeT ++ colsT g.cs)

def isD (c : Nat) : Bool := decide (48 ≤ c) && decide (c ≤ 57)
/-- The digits from a place on: how many more than k, and the number. -/
def numL (b : List Nat) (from_ : Nat) : Nat → Nat → Nat → Nat × Nat
  | 0, k, n => (k, n)
  | f + 1, k, n => if from_ + k < b.length ∧ isD (b[from_ + k]?.getD 0) = true ∧ (k = 0 ∨ b[from_]?.getD 0 ≠ 48) then numL b from_ f (k + 1) (10 * n + (b[from_ + k]?.getD 0 - 48)) else (k, n)
abbrev Flt := Int × Nat
def num (b : List Nat) (from_ : Nat) (top : Int) : Except Flt (Nat × Nat) :=
  if (numL b from_ 3 0 0).1 = 0 then .error (11, from_)
  else if from_ + (numL b from_ 3 0 0).1 < b.length ∧ isD (b[from_ + (numL b from_ 3 0 0).1]?.getD 0) = true then .error (11, from_ + (numL b from_ 3 0 0).1)
  else if top < ((numL b from_ 3 0 0).2 : Int) then .error (2, from_)
  else .ok ((numL b from_ 3 0 0).2, from_ + (numL b from_ 3 0 0).1)
def sgn (b : List Nat) (at_ c : Nat) : Except Flt Nat := if at_ < b.length ∧ b[at_]?.getD 0 = c then .ok (at_ + 1) else .error (11, at_)
def edgeP (b : List Nat) (N : Nat) (at_ : Nat) (last : Option (Int × Int)) : Except Flt ((Int × Int) × Nat) :=
  match num b at_ ((N : Int) - 1) with
  | .error e => .error e
  | .ok (i, a1) => match sgn b a1 45 with
    | .error e => .error e
    | .ok a2 => match num b a2 ((N : Int) - 1) with
      | .error e => .error e
      | .ok (k, a3) =>
        if k ≤ i then .error (3, at_)
        else if (last.any fun l => !bef l ((i : Int), (k : Int))) then .error (9, at_)
        else .ok (((i : Int), (k : Int)), a3)
def colsP (b : List Nat) : Nat → Nat → Except Flt (List Int × Nat)
  | 0, at_ => .ok ([], at_)
  | f + 1, at_ => match sgn b at_ 32 with
    | .error e => .error e
    | .ok a1 => match num b a1 99 with
      | .error e => .error e
      | .ok (c, a2) => match colsP b f a2 with
        | .error e => .error e
        | .ok (cs, a3) => .ok ((c : Int) :: cs, a3)
def colsA (b : List Nat) (N colon : Nat) : Except Flt (List Int) :=
  if N = 0 then .error (11, colon)
  else match colsP b N (colon + 1) with
    | .error e => .error e
    | .ok (cs, a2) => if a2 < b.length then .error (11, a2) else if cs.all (· == 0) then .error (3, colon) else .ok cs
def restP (b : List Nat) (N : Nat) : Nat → Nat → Option (Int × Int) → Except Flt (List (Int × Int) × List Int)
  | 0, at_, last => .ok ([], List.replicate N 0)
  | f + 1, at_, last =>
    if at_ < b.length then
      match sgn b at_ 32 with
      | .error e => .error e
      | .ok a1 =>
        if a1 < b.length ∧ b[a1]?.getD 0 = 58 then match colsA b N a1 with
          | .error e => .error e
          | .ok cs => .ok ([], cs)
        else match edgeP b N a1 last with
          | .error e => .error e
          | .ok (x, a2) => match restP b N f a2 (some x) with
            | .error e => .error e
            | .ok (es, cs) => .ok (x :: es, cs)
    else .ok ([], List.replicate N 0)
def parse (b : List Nat) : Except Flt Gr :=
  if 20000 < b.length then .error (4, 20000)
  else match num b 0 24 with
    | .error e => .error e
    | .ok (N, a) => match restP b N b.length a none with
      | .error e => .error e
      | .ok (es, cs) => .ok ⟨N, es, cs⟩
end Go.Proofs.YtifkieopaoooeaaDoor.PlainG
namespace Go.Proofs.YtifkieopaoooeaaDoor.PlainG
theorem getD_at (pre rest : List Nat) (j : Nat) : (pre ++ rest)[pre.length + j]? = rest[j]? := by
  rw [List.getElem?_append_right (by omega), Nat.add_sub_cancel_left]
theorem isD_iff {c : Nat} : isD c = true ↔ 48 ≤ c ∧ c ≤ 57 := by simp [isD]
def noD (post : List Nat) : Prop := ∀ c, post[0]? = some c → isD c = false
theorem dec_len (n : Nat) : (dec n).length = if 9 < n then 2 else 1 := by unfold dec; split <;> rfl
theorem numL_stop {b : List Nat} {from_ f k n : Nat} (h : ¬ (from_ + k < b.length ∧ isD (b[from_ + k]?.getD 0) = true)) : numL b from_ f k n = (k, n) := by
  cases f with
  | zero => rfl
  | succ f => rw [numL, if_neg (fun hh => h ⟨hh.1, hh.2.1⟩)]
theorem numL_dec {pre post : List Nat} {n : Nat} (hn : n ≤ 99) (hp : noD post) : numL (pre ++ (dec n ++ post)) pre.length 3 0 0 = ((dec n).length, n) := by
  have hstop : ∀ f k m, k = (dec n).length → numL (pre ++ (dec n ++ post)) pre.length f k m = (k, m) := by
    intro f k m hk
    apply numL_stop
    rintro ⟨h1, h2⟩
    subst hk
    have h3 : (pre ++ (dec n ++ post))[pre.length + (dec n).length]? = post[0]? := by
      rw [getD_at, List.getElem?_append_right (Nat.le_refl _), Nat.sub_self]
    rw [h3] at h2
    cases hc : post[0]? with
    | none => rw [hc] at h2; simp [isD] at h2
    | some c => rw [hc] at h2; rw [Option.getD_some, hp c hc] at h2; cases h2
  have h0 : ∀ j, (pre ++ (dec n ++ post))[pre.length + j]? = (dec n ++ post)[j]? := getD_at pre _
  by_cases h9 : 9 < n
  · have hd : dec n = [48 + n / 10, 48 + n % 10] := by unfold dec; rw [if_pos h9]
    have hl : (pre ++ (dec n ++ post)).length = pre.length + (2 + post.length) := by rw [hd]; simp; omega
    have g0 : (pre ++ (dec n ++ post))[pre.length + 0]?.getD 0 = 48 + n / 10 := by rw [h0, hd]; rfl
    have g1 : (pre ++ (dec n ++ post))[pre.length + 1]?.getD 0 = 48 + n % 10 := by rw [h0, hd]; rfl
    have g0' : (pre ++ (dec n ++ post))[pre.length]?.getD 0 = 48 + n / 10 := g0
    rw [numL, if_pos ⟨by omega, by rw [g0, isD_iff]; omega, .inl rfl⟩, numL, if_pos ⟨by omega, by rw [g1, isD_iff]; omega, .inr (by rw [g0']; omega)⟩, hstop _ _ _ (by rw [hd]; rfl)]
    rw [g0, g1, hd]
    simp only [List.length_cons, List.length_nil, Prod.mk.injEq, true_and]
    omega
  · have hd : dec n = [48 + n] := by unfold dec; rw [if_neg h9]
    have hl : (pre ++ (dec n ++ post)).length = pre.length + (1 + post.length) := by rw [hd]; simp; omega
    have g0 : (pre ++ (dec n ++ post))[pre.length + 0]?.getD 0 = 48 + n := by rw [h0, hd]; rfl
    rw [numL, if_pos ⟨by omega, by rw [g0, isD_iff]; omega, .inl rfl⟩, hstop _ _ _ (by rw [hd]; rfl)]
    rw [g0, hd]
    simp only [List.length_cons, List.length_nil, Prod.mk.injEq, true_and]
    omega
theorem num_dec {pre post : List Nat} {n : Nat} {top : Int} (hn : n ≤ 99) (ht : (n : Int) ≤ top) (hp : noD post) : num (pre ++ (dec n ++ post)) pre.length top = .ok (n, pre.length + (dec n).length) := by
  unfold num
  rw [numL_dec hn hp]
  have hl := dec_len n
  have h3 : (pre ++ (dec n ++ post))[pre.length + (dec n).length]? = post[0]? := by
    rw [getD_at, List.getElem?_append_right (Nat.le_refl _), Nat.sub_self]
  simp only
  rw [if_neg (by split at hl <;> omega), if_neg, if_neg (by omega)]
  rintro ⟨_, h2⟩
  rw [h3] at h2
  cases hc : post[0]? with
  | none => rw [hc] at h2; simp [isD] at h2
  | some c => rw [hc] at h2; rw [Option.getD_some, hp c hc] at h2; cases h2
theorem sgn_at {pre post : List Nat} {c : Nat} : sgn (pre ++ c :: post) pre.length c = .ok (pre.length + 1) := by
  unfold sgn
  rw [if_pos ⟨by simp, by rw [List.getElem?_append_right (Nat.le_refl _), Nat.sub_self]; rfl⟩]
end Go.Proofs.YtifkieopaoooeaaDoor.PlainG
namespace Go.Proofs.YtifkieopaoooeaaDoor.PlainG
theorem drop_getD {b : List Nat} {i : Nat} (h : i < b.length) : b.drop i = b[i]?.getD 0 :: b.drop (i + 1) := by
  rw [List.drop_eq_getElem_cons h, List.getElem?_eq_getElem h]; rfl
theorem num_inv {b : List Nat} {from_ n a : Nat} {top : Int} (h : num b from_ top = .ok (n, a)) (ht : top ≤ 99) : (n : Int) ≤ top ∧ a ≤ b.length ∧ from_ < a ∧ b.drop from_ = dec n ++ b.drop a := by
  unfold num at h
  obtain ⟨x0, h0⟩ : ∃ x, b[from_]?.getD 0 = x := ⟨_, rfl⟩
  obtain ⟨x1, h1⟩ : ∃ x, b[from_ + 1]?.getD 0 = x := ⟨_, rfl⟩
  obtain ⟨x2, h2⟩ : ∃ x, b[from_ + 2]?.getD 0 = x := ⟨_, rfl⟩
  by_cases c1 : from_ + 0 < b.length ∧ isD (b[from_ + 0]?.getD 0) = true ∧ ((0 : Nat) = 0 ∨ b[from_]?.getD 0 ≠ 48)
  · have e1 : numL b from_ 3 0 0 = numL b from_ 2 1 (10 * 0 + (b[from_ + 0]?.getD 0 - 48)) := by rw [numL, if_pos c1]
    rw [Nat.add_zero, h0] at c1 e1
    have d0 := isD_iff.1 c1.2.1
    by_cases c2 : from_ + 1 < b.length ∧ isD (b[from_ + 1]?.getD 0) = true ∧ (1 = 0 ∨ b[from_]?.getD 0 ≠ 48)
    · have e2 : numL b from_ 2 1 (10 * 0 + (x0 - 48)) = numL b from_ 1 2 (10 * (10 * 0 + (x0 - 48)) + (b[from_ + 1]?.getD 0 - 48)) := by rw [numL, if_pos c2]
      rw [h1, h0] at c2
      rw [h1] at e2
      have d1 := isD_iff.1 c2.2.1
      have d00 : x0 ≠ 48 := by have := c2.2.2; omega
      by_cases c3 : from_ + 2 < b.length ∧ isD (b[from_ + 2]?.getD 0) = true ∧ (2 = 0 ∨ b[from_]?.getD 0 ≠ 48)
      · have e3 : numL b from_ 1 2 (10 * (10 * 0 + (x0 - 48)) + (x1 - 48)) = (3, 10 * (10 * (10 * 0 + (x0 - 48)) + (x1 - 48)) + (b[from_ + 2]?.getD 0 - 48)) := by rw [numL, if_pos c3]; rfl
        rw [e1, e2, e3] at h
        simp only at h
        rw [if_neg (by omega)] at h
        split at h
        · cases h
        · rw [if_pos (by omega)] at h; cases h
      · have e3 : numL b from_ 1 2 (10 * (10 * 0 + (x0 - 48)) + (x1 - 48)) = (2, 10 * (10 * 0 + (x0 - 48)) + (x1 - 48)) := by rw [numL, if_neg c3]
        rw [e1, e2, e3] at h
        simp only at h
        rw [if_neg (by omega)] at h
        split at h
        · cases h
        · split at h
          · cases h
          · injection h with h
            injection h with hn ha
            refine ⟨by omega, by omega, by omega, ?_⟩
            have hd : dec n = [x0, x1] := by
              unfold dec
              rw [if_pos (by omega)]
              congr 1
              · omega
              · congr 1; omega
            rw [drop_getD (by omega), h0, drop_getD (by omega), h1, hd, ← ha]
            rfl
    · have e2 : numL b from_ 2 1 (10 * 0 + (x0 - 48)) = (1, 10 * 0 + (x0 - 48)) := by rw [numL, if_neg c2]
      rw [e1, e2] at h
      simp only at h
      rw [if_neg (by omega)] at h
      split at h
      · cases h
      · split at h
        · cases h
        · injection h with h
          injection h with hn ha
          refine ⟨by omega, by omega, by omega, ?_⟩
          have hd : dec n = [x0] := by
            unfold dec
            rw [if_neg (by omega)]
            congr 1
            omega
          rw [drop_getD (by omega), h0, hd, ← ha]
          rfl
  · have e1 : numL b from_ 3 0 0 = (0, 0) := by rw [numL, if_neg c1]
    rw [e1] at h
    simp at h
theorem num_err {b : List Nat} {from_ : Nat} {top : Int} {e : Flt} (hf : from_ ≤ b.length) (h : num b from_ top = .error e) : e.2 ≤ b.length ∧ e.1 ≠ 0 := by
  unfold num at h
  split at h
  · cases h; exact ⟨hf, by simp⟩
  · split at h
    · rename_i hc
      cases h
      exact ⟨by simp only; omega, by simp⟩
    · split at h
      · cases h; exact ⟨hf, by simp⟩
      · cases h
theorem sgn_inv {b : List Nat} {at_ c a : Nat} (h : sgn b at_ c = .ok a) : a = at_ + 1 ∧ at_ < b.length ∧ b.drop at_ = c :: b.drop a := by
  unfold sgn at h
  split at h
  · rename_i hc
    cases h
    exact ⟨rfl, hc.1, by rw [drop_getD hc.1, hc.2]⟩
  · cases h
theorem sgn_err {b : List Nat} {at_ c : Nat} {e : Flt} (hf : at_ ≤ b.length) (h : sgn b at_ c = .error e) : e.2 ≤ b.length ∧ e.1 ≠ 0 := by
  unfold sgn at h
  split at h
  · cases h
  · cases h; exact ⟨hf, by simp⟩
theorem edgeP_inv {b : List Nat} {N at_ a : Nat} {last : Option (Int × Int)} {x : Int × Int} (hN : N ≤ 24) (h : edgeP b N at_ last = .ok (x, a)) :
    (vert N x.1 && vert N x.2) = true ∧ ¬ x.2 ≤ x.1 ∧ (last.any fun l => !bef l x) = false ∧ a ≤ b.length ∧ at_ < a ∧ b.drop at_ = (dec x.1.toNat ++ 45 :: dec x.2.toNat) ++ b.drop a := by
  unfold edgeP at h
  split at h
  · cases h
  rename_i i a1 hi
  split at h
  · cases h
  rename_i a2 hs
  split at h
  · cases h
  rename_i k a3 hk
  split at h
  · cases h
  rename_i hik
  split at h
  · cases h
  rename_i hb
  injection h with h
  injection h with hx ha
  subst hx; subst ha
  obtain ⟨i1, i2, i3, i4⟩ := num_inv hi (by omega)
  obtain ⟨s1, s2, s3⟩ := sgn_inv hs
  obtain ⟨k1, k2, k3, k4⟩ := num_inv hk (by omega)
  refine ⟨by simp [vert]; omega, by simp only; omega, by simpa using hb, k2, by omega, ?_⟩
  rw [i4, s3, k4]
  simp
theorem edgeP_err {b : List Nat} {N at_ : Nat} {last : Option (Int × Int)} {e : Flt} (hf : at_ ≤ b.length) (hN : N ≤ 24) (h : edgeP b N at_ last = .error e) : e.2 ≤ b.length ∧ e.1 ≠ 0 := by
  unfold edgeP at h
  split at h
  · rename_i e' hi
    cases h; exact num_err hf hi
  rename_i i a1 hi
  obtain ⟨i1, i2, i3, i4⟩ := num_inv hi (by omega)
  split at h
  · rename_i e' hs
    cases h; exact sgn_err i2 hs
  rename_i a2 hs
  obtain ⟨s1, s2, s3⟩ := sgn_inv hs
  split at h
  · rename_i e' hk
    cases h; exact num_err (by omega) hk
  split at h
  · cases h; exact ⟨hf, by simp⟩
  split at h
  · cases h; exact ⟨hf, by simp⟩
  · cases h
theorem colsP_inv {b : List Nat} : ∀ {f at_ a : Nat} {cs : List Int}, at_ ≤ b.length → colsP b f at_ = .ok (cs, a) → cs.length = f ∧ cs.all okC = true ∧ a ≤ b.length ∧ b.drop at_ = (cs.flatMap fun c => 32 :: dec c.toNat) ++ b.drop a
  | 0, at_, a, cs, hl, h => by
    unfold colsP at h
    injection h with h
    injection h with h1 h2
    subst h1; subst h2
    exact ⟨rfl, rfl, hl, rfl⟩
  | f + 1, at_, a, cs, hl, h => by
    unfold colsP at h
    split at h
    · cases h
    rename_i a1 hs
    split at h
    · cases h
    rename_i c a2 hc
    split at h
    · cases h
    rename_i cs' a3 hcs
    injection h with h
    injection h with h1 h2
    subst h1; subst h2
    obtain ⟨s1, s2, s3⟩ := sgn_inv hs
    obtain ⟨c1, c2, c3, c4⟩ := num_inv hc (by omega)
    obtain ⟨r1, r2, r3, r4⟩ := colsP_inv c2 hcs
    refine ⟨by simp [r1], by rw [List.all_cons, r2]; simp [okC]; omega, r3, ?_⟩
    rw [s3, c4, r4]
    simp
theorem colsP_err {b : List Nat} : ∀ {f at_ : Nat} {e : Flt}, at_ ≤ b.length → colsP b f at_ = .error e → e.2 ≤ b.length ∧ e.1 ≠ 0
  | 0, at_, e, hl, h => by unfold colsP at h; cases h
  | f + 1, at_, e, hl, h => by
    unfold colsP at h
    split at h
    · rename_i e' hs; cases h; exact sgn_err hl hs
    rename_i a1 hs
    obtain ⟨s1, s2, s3⟩ := sgn_inv hs
    split at h
    · rename_i e' hc; cases h; exact num_err (by omega) hc
    rename_i c a2 hc
    obtain ⟨c1, c2, c3, c4⟩ := num_inv hc (by omega)
    split at h
    · rename_i e' hcs; cases h; exact colsP_err c2 hcs
    · cases h
end Go.Proofs.YtifkieopaoooeaaDoor.PlainG
namespace Go.Proofs.YtifkieopaoooeaaDoor.PlainG
theorem colsT_zero (N : Nat) : colsT (List.replicate N 0) = [] := by
  unfold colsT
  rw [if_pos (by simp)]
theorem chkC_zero (N : Nat) : chkC N (List.replicate N 0) = 0 := by
  unfold chkC
  rw [if_neg (by simp), if_pos (by simp [okC])]
theorem chkE_cons {n : Int} {last : Option (Int × Int)} {x : Int × Int} {es : List (Int × Int)} : chkE n last (x :: es) = 0 ↔ (vert n x.1 && vert n x.2) = true ∧ ¬ x.2 ≤ x.1 ∧ (last.any fun l => !bef l x) = false ∧ chkE n (some x) es = 0 := by
  rw [chkE]
  cases h1 : (vert n x.1 && vert n x.2)
  · simp
  · simp only [Bool.true_eq_false, if_false, true_and]
    by_cases h2 : x.2 ≤ x.1
    · simp [h2]
    · rw [if_neg h2]
      cases h3 : (last.any fun l => !bef l x)
      · simp [h2]
      · simp
theorem restP_inv {b : List Nat} {N : Nat} (hN : N ≤ 24) : ∀ {f at_ : Nat} {last : Option (Int × Int)} {es : List (Int × Int)} {cs : List Int}, at_ ≤ b.length → b.length ≤ at_ + f → restP b N f at_ last = .ok (es, cs) →
    chkE N last es = 0 ∧ chkC N cs = 0 ∧ b.drop at_ = es.flatMap edgeT ++ colsT cs
  | 0, at_, last, es, cs, hl, hf, h => by
    unfold restP at h
    injection h with h
    injection h with h1 h2
    subst h1; subst h2
    refine ⟨rfl, chkC_zero N, ?_⟩
    rw [colsT_zero, List.drop_of_length_le (by omega)]; rfl
  | f + 1, at_, last, es, cs, hl, hf, h => by
    unfold restP at h
    split at h
    · split at h
      · cases h
      rename_i a1 hs
      obtain ⟨s1, s2, s3⟩ := sgn_inv hs
      split at h
      · rename_i hc
        split at h
        · cases h
        rename_i cs' hcs
        injection h with h
        injection h with h1 h2
        subst h1; subst h2
        unfold colsA at hcs
        split at hcs
        · cases hcs
        rename_i hN0
        split at hcs
        · cases hcs
        rename_i cs2 a2 hp
        split at hcs
        · cases hcs
        rename_i ha2
        split at hcs
        · cases hcs
        rename_i hz
        injection hcs with hcs
        subst hcs
        obtain ⟨p1, p2, p3, p4⟩ := colsP_inv (by omega) hp
        refine ⟨rfl, ?_, ?_⟩
        · unfold chkC; rw [if_neg (by rw [p1]; simp), if_pos p2]
        · rw [s3, drop_getD hc.1, hc.2, p4, List.drop_of_length_le (by omega)]
          unfold colsT
          rw [if_neg hz]
          simp
      · rename_i hc
        split at h
        · cases h
        rename_i x a2 he
        split at h
        · cases h
        rename_i es' cs' hr
        injection h with h
        injection h with h1 h2
        subst h1; subst h2
        obtain ⟨e1, e2, e3, e4, e5, e6⟩ := edgeP_inv hN he
        obtain ⟨r1, r2, r3⟩ := restP_inv hN e4 (by omega) hr
        refine ⟨chkE_cons.2 ⟨e1, e2, e3, r1⟩, r2, ?_⟩
        rw [s3, e6, r3]
        simp [edgeT]
    · injection h with h
      injection h with h1 h2
      subst h1; subst h2
      refine ⟨rfl, chkC_zero N, ?_⟩
      rw [colsT_zero, List.drop_of_length_le (by omega)]; rfl
theorem restP_err {b : List Nat} {N : Nat} (hN : N ≤ 24) : ∀ {f at_ : Nat} {last : Option (Int × Int)} {e : Flt}, at_ ≤ b.length → restP b N f at_ last = .error e → e.2 ≤ b.length ∧ e.1 ≠ 0
  | 0, at_, last, e, hl, h => by unfold restP at h; cases h
  | f + 1, at_, last, e, hl, h => by
    unfold restP at h
    split at h
    · split at h
      · rename_i e' hs; cases h; exact sgn_err hl hs
      rename_i a1 hs
      obtain ⟨s1, s2, s3⟩ := sgn_inv hs
      split at h
      · rename_i hc
        split at h
        · rename_i e' hcs
          cases h
          unfold colsA at hcs
          split at hcs
          · cases hcs; exact ⟨by simp only; omega, by simp⟩
          split at hcs
          · rename_i e2 hp; cases hcs; exact colsP_err (by omega) hp
          rename_i cs2 a2 hp
          obtain ⟨p1, p2, p3, p4⟩ := colsP_inv (by omega) hp
          split at hcs
          · cases hcs; exact ⟨p3, by simp⟩
          split at hcs
          · cases hcs; exact ⟨by simp only; omega, by simp⟩
          · cases hcs
        · cases h
      · rename_i hc
        split at h
        · rename_i e' he; cases h; exact edgeP_err (by omega) hN he
        rename_i x a2 he
        obtain ⟨e1, e2, e3, e4, e5, e6⟩ := edgeP_inv hN he
        split at h
        · rename_i e' hr; cases h; exact restP_err hN e4 hr
        · cases h
    · cases h
theorem parse_inv {b : List Nat} {g : Gr} (h : parse b = .ok g) : chkGr g = 0 ∧ textG g = b := by
  unfold parse at h
  split at h
  · cases h
  split at h
  · cases h
  rename_i N a hn
  split at h
  · cases h
  rename_i es cs hr
  injection h with h
  subst h
  obtain ⟨n1, n2, n3, n4⟩ := num_inv hn (by omega)
  obtain ⟨r1, r2, r3⟩ := restP_inv (by omega) n2 (by omega) hr
  refine ⟨?_, ?_⟩
  · unfold chkGr
    rw [if_neg (by simp only; omega), if_neg (by simp [r1])]
    exact r2
  · unfold textG
    rw [List.drop_zero] at n4
    conv => rhs; rw [n4, r3]
    simp
theorem parse_err {b : List Nat} {e : Flt} (h : parse b = .error e) (hl : b.length ≤ 20000) : e.2 ≤ b.length ∧ e.1 ≠ 0 := by
  unfold parse at h
  rw [if_neg (by omega)] at h
  split at h
  · rename_i e' hn; cases h; exact num_err (by omega) hn
  rename_i N a hn
  obtain ⟨n1, n2, n3, n4⟩ := num_inv hn (by omega)
  split at h
  · rename_i e' hr; cases h; exact restP_err (by omega) n2 hr
  · cases h
def codeE (x : Int × Int) : Int := 24 * x.1 + x.2
theorem chkE_len {n : Int} (hn : n ≤ 24) : ∀ {es : List (Int × Int)} {l : Int × Int}, (vert n l.1 && vert n l.2) = true → chkE n (some l) es = 0 → (es.length : Int) ≤ 575 - codeE l
  | [], l, hv, h => by simp [vert] at hv; simp [codeE]; omega
  | x :: es, l, hv, h => by
    obtain ⟨h1, h2, h3, h4⟩ := chkE_cons.1 h
    have ih := chkE_len hn h1 h4
    simp [vert] at hv h1
    simp [bef] at h3
    rw [List.length_cons]
    unfold codeE at ih ⊢
    omega
theorem chkE_len0 {n : Int} (hn : n ≤ 24) {es : List (Int × Int)} (h : chkE n none es = 0) : es.length ≤ 576 := by
  cases es with
  | nil => simp
  | cons x es =>
    obtain ⟨h1, h2, h3, h4⟩ := chkE_cons.1 h
    have := chkE_len hn h1 h4
    simp [vert] at h1
    unfold codeE at this
    rw [List.length_cons]
    omega
end Go.Proofs.YtifkieopaoooeaaDoor.PlainG
namespace Go.Proofs.YtifkieopaoooeaaDoor.PlainG
theorem noD_nil : noD [] := fun c h => by simp at h
theorem noD_cons {c : Nat} {l : List Nat} (h : isD c = false) : noD (c :: l) := fun d hd => by simp at hd; subst hd; exact h
def colT (c : Int) : List Nat := 32 :: dec c.toNat
theorem noD_cols (cs : List Int) : noD (cs.flatMap colT) := by
  cases cs with
  | nil => exact noD_nil
  | cons c cs => rw [List.flatMap_cons]; exact noD_cons (by decide)
theorem noD_colsT (cs : List Int) : noD (colsT cs) := by
  unfold colsT
  split
  · exact noD_nil
  · exact noD_cons (by decide)
theorem noD_rest (es : List (Int × Int)) (cs : List Int) : noD (es.flatMap edgeT ++ colsT cs) := by
  cases es with
  | nil => exact noD_colsT cs
  | cons x es => rw [List.flatMap_cons]; exact noD_cons (by decide)
theorem num_dec' {b pre post : List Nat} {n at_ : Nat} {top : Int} (hb : b = pre ++ (dec n ++ post)) (ha : at_ = pre.length) (hn : n ≤ 99) (ht : (n : Int) ≤ top) (hp : noD post) : num b at_ top = .ok (n, (pre ++ dec n).length) := by
  subst hb; subst ha
  rw [num_dec hn ht hp, List.length_append]
theorem sgn_at' {b pre post : List Nat} {c at_ : Nat} (hb : b = pre ++ c :: post) (ha : at_ = pre.length) : sgn b at_ c = .ok (pre ++ [c]).length := by
  subst hb; subst ha
  rw [sgn_at]; simp
theorem colsP_text : ∀ (cs : List Int) (pre : List Nat), cs.all okC = true → colsP (pre ++ cs.flatMap colT) cs.length pre.length = .ok (cs, (pre ++ cs.flatMap colT).length)
  | [], pre, _ => by simp [colsP]
  | c :: cs, pre, h => by
    rw [List.all_cons, Bool.and_eq_true] at h
    have hc : 0 ≤ c ∧ c ≤ 99 := by have := h.1; simp [okC] at this; omega
    have hb : pre ++ (c :: cs).flatMap colT = pre ++ 32 :: (dec c.toNat ++ cs.flatMap colT) := by simp [colT]
    have hb2 : pre ++ (c :: cs).flatMap colT = (pre ++ [32]) ++ (dec c.toNat ++ cs.flatMap colT) := by simp [colT]
    have hb3 : pre ++ (c :: cs).flatMap colT = (pre ++ [32] ++ dec c.toNat) ++ cs.flatMap colT := by simp [colT]
    have ih := colsP_text cs (pre ++ [32] ++ dec c.toNat) h.2
    rw [← hb3] at ih
    rw [List.length_cons, colsP, sgn_at' hb rfl]
    simp only
    rw [num_dec' hb2 rfl (by omega) (by omega) (noD_cols cs)]
    simp only
    rw [ih]
    simp only [show ((c.toNat : Nat) : Int) = c by omega]
theorem dec_head (n : Nat) (hn : n ≤ 99) (l : List Nat) : ∃ c r, dec n ++ l = c :: r ∧ 48 ≤ c ∧ c ≤ 57 := by
  unfold dec
  split
  · exact ⟨_, _, rfl, by omega, by omega⟩
  · exact ⟨_, _, rfl, by omega, by omega⟩
theorem edgeP_text {b pre post : List Nat} {N : Nat} {last : Option (Int × Int)} {x : Int × Int} (hN : N ≤ 24) (hb : b = pre ++ (dec x.1.toNat ++ 45 :: dec x.2.toNat) ++ post) (hp : noD post) (h1 : (vert N x.1 && vert N x.2) = true) (h2 : ¬ x.2 ≤ x.1) (h3 : (last.any fun l => !bef l x) = false) :
    edgeP b N pre.length last = .ok (x, (pre ++ (dec x.1.toNat ++ 45 :: dec x.2.toNat)).length) := by
  simp [vert] at h1
  have hb1 : b = pre ++ (dec x.1.toNat ++ (45 :: (dec x.2.toNat ++ post))) := by rw [hb]; simp
  have hb2 : b = (pre ++ dec x.1.toNat) ++ 45 :: (dec x.2.toNat ++ post) := by rw [hb]; simp
  have hb3 : b = (pre ++ dec x.1.toNat ++ [45]) ++ (dec x.2.toNat ++ post) := by rw [hb]; simp
  unfold edgeP
  rw [num_dec' hb1 rfl (by omega) (by omega) (noD_cons (by decide))]
  simp only
  rw [sgn_at' hb2 rfl]
  simp only
  rw [num_dec' hb3 rfl (by omega) (by omega) hp]
  simp only
  have e : (((x.1.toNat : Nat) : Int), ((x.2.toNat : Nat) : Int)) = x := by
    obtain ⟨x1, x2⟩ := x
    simp only at h1 ⊢
    rw [show ((x1.toNat : Nat) : Int) = x1 by omega, show ((x2.toNat : Nat) : Int) = x2 by omega]
  rw [if_neg (by omega), e, if_neg (by rw [h3]; simp)]
  simp
theorem restP_text {N : Nat} (hN : N ≤ 24) {cs : List Int} (hcl : cs.length = N) (hc : cs.all okC = true) : ∀ (es : List (Int × Int)) (pre : List Nat) (f : Nat) (last : Option (Int × Int)), chkE N last es = 0 → (es.flatMap edgeT ++ colsT cs).length ≤ f →
    restP (pre ++ (es.flatMap edgeT ++ colsT cs)) N f pre.length last = .ok (es, cs)
  | [], pre, f, last, he, hf => by
    by_cases hz : cs.all (· == 0) = true
    · have h0 : colsT cs = [] := by unfold colsT; rw [if_pos hz]
      have hr : List.replicate N 0 = cs := by
        rw [← hcl]
        refine (List.eq_replicate_iff.2 ⟨rfl, fun b hb => ?_⟩).symm
        have := List.all_eq_true.1 hz b hb
        simpa using this
      rw [List.flatMap_nil, List.nil_append, h0, List.append_nil]
      cases f with
      | zero => rw [restP, hr]
      | succ f => rw [restP, if_neg (by omega), hr]
    · have h0 : colsT cs = 32 :: 58 :: cs.flatMap colT := by unfold colsT; rw [if_neg hz]; rfl
      rw [List.flatMap_nil, List.nil_append, h0] at hf ⊢
      obtain ⟨f, rfl⟩ : ∃ g, f = g + 1 := ⟨f - 1, by simp at hf; omega⟩
      have hN0 : N ≠ 0 := by
        rintro rfl
        have : cs = [] := List.eq_nil_of_length_eq_zero hcl
        subst this
        exact hz rfl
      have hb : pre ++ 32 :: 58 :: cs.flatMap colT = (pre ++ [32, 58]) ++ cs.flatMap colT := by simp
      have hcp := colsP_text cs (pre ++ [32, 58]) hc
      rw [← hb] at hcp
      rw [restP, if_pos (by simp), sgn_at' rfl rfl]
      simp only
      have hg : (pre ++ 32 :: 58 :: cs.flatMap colT)[(pre ++ [32]).length]?.getD 0 = 58 := by
        rw [show pre ++ 32 :: 58 :: cs.flatMap colT = (pre ++ [32]) ++ 58 :: cs.flatMap colT by simp, List.getElem?_append_right (Nat.le_refl _), Nat.sub_self]; rfl
      rw [if_pos ⟨by simp, hg⟩]
      have hca : colsA (pre ++ 32 :: 58 :: cs.flatMap colT) N (pre ++ [32]).length = .ok cs := by
        unfold colsA
        rw [if_neg hN0]
        have e9 : colsP (pre ++ 32 :: 58 :: cs.flatMap colT) N ((pre ++ [32]).length + 1) = .ok (cs, (pre ++ 32 :: 58 :: cs.flatMap colT).length) := by
          rw [← hcl, ← hcp]; congr 1; simp
        rw [e9]
        simp only
        rw [if_neg (by omega), if_neg hz]
      rw [hca]
  | x :: es, pre, f, last, he, hf => by
    obtain ⟨h1, h2, h3, h4⟩ := chkE_cons.1 he
    have hb : pre ++ ((x :: es).flatMap edgeT ++ colsT cs) = pre ++ 32 :: ((dec x.1.toNat ++ 45 :: dec x.2.toNat) ++ (es.flatMap edgeT ++ colsT cs)) := by simp [edgeT]
    have hb2 : pre ++ ((x :: es).flatMap edgeT ++ colsT cs) = (pre ++ [32]) ++ (dec x.1.toNat ++ 45 :: dec x.2.toNat) ++ (es.flatMap edgeT ++ colsT cs) := by simp [edgeT]
    have hb3 : pre ++ ((x :: es).flatMap edgeT ++ colsT cs) = ((pre ++ [32]) ++ (dec x.1.toNat ++ 45 :: dec x.2.toNat)) ++ (es.flatMap edgeT ++ colsT cs) := hb2
    have hfl : ((x :: es).flatMap edgeT ++ colsT cs).length = (edgeT x).length + (es.flatMap edgeT ++ colsT cs).length := by rw [List.flatMap_cons]; simp only [List.length_append]; omega
    have hpos : 0 < (edgeT x).length := by simp [edgeT]
    obtain ⟨f, rfl⟩ : ∃ g, f = g + 1 := ⟨f - 1, by omega⟩
    have ih := restP_text hN hcl hc es ((pre ++ [32]) ++ (dec x.1.toNat ++ 45 :: dec x.2.toNat)) f (some x) h4 (by omega)
    rw [← hb3] at ih
    have hv := h1
    simp [vert] at hv
    rw [restP, if_pos (by rw [hb]; simp), sgn_at' hb rfl]
    simp only
    rw [if_neg]
    · rw [edgeP_text hN hb2 (noD_rest es cs) h1 h2 h3]
      simp only
      rw [ih]
    · rintro ⟨_, hg⟩
      obtain ⟨c, r, hr, c1, c2⟩ := dec_head x.1.toNat (by omega) (45 :: dec x.2.toNat ++ (es.flatMap edgeT ++ colsT cs))
      have hb4 : pre ++ ((x :: es).flatMap edgeT ++ colsT cs) = (pre ++ [32]) ++ (c :: r) := by rw [hb, ← hr]; simp
      rw [hb4, List.getElem?_append_right (Nat.le_refl _), Nat.sub_self, List.getElem?_cons_zero, Option.getD_some] at hg
      omega
theorem chkGr_ok {g : Gr} : chkGr g = 0 ↔ 0 ≤ g.n ∧ g.n ≤ 24 ∧ chkE g.n none g.es = 0 ∧ (g.cs.length : Int) = g.n ∧ g.cs.all okC = true := by
  unfold chkGr
  split
  · constructor
    · intro h; omega
    · rintro ⟨h1, h2, _⟩; omega
  · split
    · rename_i h
      constructor
      · intro h2; exact absurd h2 h
      · rintro ⟨_, _, h2, _⟩; exact absurd h2 h
    · rename_i h
      unfold chkC
      split
      · rename_i hl
        constructor
        · intro h2; omega
        · rintro ⟨_, _, _, h2, _⟩; exact absurd h2 hl
      · rename_i hl
        split
        · rename_i hc
          constructor
          · intro _; exact ⟨by omega, by omega, by simpa using h, by simpa using hl, hc⟩
          · intro _; rfl
        · rename_i hc
          constructor
          · intro h2; omega
          · rintro ⟨_, _, _, _, h2⟩; exact absurd h2 hc
theorem dec_le (n : Nat) : (dec n).length ≤ 2 := by unfold dec; split <;> simp
theorem edges_len : ∀ es : List (Int × Int), (es.flatMap edgeT).length ≤ 6 * es.length
  | [] => by simp
  | x :: es => by
    have := edges_len es
    have h1 := dec_le x.1.toNat
    have h2 := dec_le x.2.toNat
    rw [List.flatMap_cons, List.length_append, List.length_cons]
    simp only [edgeT, List.length_cons, List.length_append]
    omega
theorem cols_len : ∀ cs : List Int, (cs.flatMap colT).length ≤ 3 * cs.length
  | [] => by simp
  | c :: cs => by
    have := cols_len cs
    have h1 := dec_le c.toNat
    rw [List.flatMap_cons, List.length_append, List.length_cons]
    simp only [colT, List.length_cons]
    omega
theorem colsT_len (cs : List Int) : (colsT cs).length ≤ 3 * cs.length + 2 := by
  unfold colsT
  split
  · simp
  · have := cols_len cs
    show (32 :: 58 :: cs.flatMap colT).length ≤ _
    simp only [List.length_cons]; omega
theorem text_len {g : Gr} (h : chkGr g = 0) : (textG g).length ≤ 3600 := by
  obtain ⟨h1, h2, h3, h4, h5⟩ := chkGr_ok.1 h
  have := chkE_len0 h2 h3
  have := edges_len g.es
  have := colsT_len g.cs
  have := dec_le g.n.toNat
  unfold textG
  simp only [List.length_append]
  omega
theorem parse_text {g : Gr} (h : chkGr g = 0) : parse (textG g) = .ok g := by
  obtain ⟨h1, h2, h3, h4, h5⟩ := chkGr_ok.1 h
  obtain ⟨N, hN⟩ : ∃ N : Nat, g.n = N := ⟨g.n.toNat, by omega⟩
  have hl := text_len h
  have hb : textG g = [] ++ (dec N ++ (g.es.flatMap edgeT ++ colsT g.cs)) := by unfold textG; rw [hN]; simp
  unfold parse
  have hnum : num (textG g) 0 24 = .ok (N, ([] ++ dec N).length) := num_dec' hb rfl (by omega) (by omega) (noD_rest _ _)
  rw [if_neg (by omega), hnum]
  simp only [List.nil_append]
  have hr := restP_text (N := N) (by omega) (cs := g.cs) (by omega) h5 g.es (dec N) (textG g).length none (by rw [← hN]; exact h3) (by rw [hb]; simp)
  rw [List.nil_append] at hb
  rw [← hb] at hr
  rw [hr]
  simp only [← hN]
end Go.Proofs.YtifkieopaoooeaaDoor.PlainG
