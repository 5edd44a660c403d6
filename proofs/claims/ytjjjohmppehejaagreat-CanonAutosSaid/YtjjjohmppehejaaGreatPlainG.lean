/- Graphs and their texts: plain. · Edges in order: plain. · Which graph Make returns: plain. · The edges of a matrix, one after another: plain. -/

set_option linter.unusedSimpArgs false
set_option linter.unusedVariables false
namespace Go.Proofs.YtjjjohmppehejaaGreat.PlainG
structure Gr where
  n : Int
  es : List (Int × Int)
  cs : List Int
def bef (a b : Int × Int) : Bool := decide (a.1 < b.1) || (a.1 == b.1 && decide (a.2 < b.2))
def vert (n v : Int) : Bool := decide (0 ≤ v) && decide (v < n)
def chkE (n : Int) : Option (Int × Int) → List (Int × Int) → Int
  | _, [] => 0
  | last, x :: es =>
    if (vert n x.1 && vert n x.2) = false then 2
    else if x.2 ≤ x.1 then 3
    else if (last.any fun l => !bef l x) then 9
    else chkE n (some x) es
def okC (c : Int) : Bool := decide (0 ≤ c) && decide (c ≤ 99)
def chkC (n : Int) (cs : List Int) : Int := if (cs.length : Int) ≠ n then 3 else if cs.all okC then 0 else 2
def chkGr (g : Gr) : Int := if g.n < 0 ∨ 24 < g.n then 2 else if chkE g.n none g.es ≠ 0 then chkE g.n none g.es else chkC g.n g.cs
/-- A number below 100 as text. -/
def dec (n : Nat) : List Nat := if 9 < n then [48 + n / 10, 48 + n % 10] else [48 + n]
def edgeT (x : Int × Int) : List Nat := 32 :: (dec x.1.toNat ++ 45 :: dec x.2.toNat)
def colsT (cs : List Int) : List Nat := if cs.all (· == 0) then [] else 32 :: 58 :: cs.flatMap fun c => 32 :: dec c.toNat
def textG (g : Gr) : List Nat := dec g.n.toNat ++ (g.es.flatMap edgeT ++ colsT g.cs)

def isD (c : Nat) : Bool := decide (48 ≤ c) && decide (c ≤ 57)
/-- The digits from a place on: how many more than k, and the number. -/
def numL (b : List Nat) (from_ : Nat) : Nat → Nat → Nat → Nat × Nat
  | 0, k, n => (k, n)
  | f + 1, k, n => if from_ + k < b.length ∧ isD (b[from_ + k]?.getD 0) = true ∧ (k = 0 ∨ b[from_]?.getD 0 ≠ 48) then numL b from_ f (k + 1) (10 * n + (b[from_ + k]?.getD 0 - 48)) else (k, n)
abbrev Flt := Int × Nat
def num (b : List Nat) (from_ : Nat) (top : Int) : Except Flt (Nat × Nat) :=
  if (numL b from_ 3 0 0).1 = 0 then .error (11, from_)
  else if from_ + (numL b from_ 3 0 0).1 < b.length ∧ isD (b[from_ + (numL b from_ 3 0 0).1]?.getD 0) = true then .error (11, from_ + (numL b from_ 3 0 0).1)
  else if top < ((numL b from_ 3 0 0).2 : Int) then .error (2, from_)
  else .ok ((numL b from_ 3 0 0).2, from_ + (numL b from_ 3 0 0).1)
def sgn (b : List Nat) (at_ c : Nat) : Except Flt Nat := if at_ < b.length ∧ b[at_]?.getD 0 = c then .ok (at_ + 1) else .error (11, at_)
def edgeP (b : List Nat) (N : Nat) (at_ : Nat) (last : Option (Int × Int)) : Except Flt ((Int × Int) × Nat) :=
  match num b at_ ((N : Int) - 1) with
  | .error e => .error e
  | .ok (i, a1) => match sgn b a1 45 with
    | .error e => .error e
    | .ok a2 => match num b a2 ((N : Int) - 1) with
      | .error e => .error e
      | .ok (k, a3) =>
        if k ≤ i then .error (3, at_)
        else if (last.any fun l => !bef l ((i : Int), (k : Int))) then .error (9, at_)
        else .ok (((i : Int), (k : Int)), a3)
def colsP (b : List Nat) : Nat → Nat → Except Flt (List Int × Nat)
  | 0, at_ => .ok ([], at_)
  | f + 1, at_ => match sgn b at_ 32 with
    | .error e => .error e
    | .ok a1 => match num b a1 99 with
      | .error e => .error e
      | .ok (c, a2) => match colsP b f a2 with
        | .error e => .error e
        | .ok (cs, a3) => .ok ((c : Int) :: cs, a3)
def colsA (b : List Nat) (N colon : Nat) : Except Flt (List Int) :=
  if N = 0 then .error (11, colon)
  else match colsP b N (colon + 1) with
    | .error e => .error e
    | .ok (cs, a2) => if a2 < b.length then .error (11, a2) else if cs.all (· == 0) then .error (3, colon) else .ok cs
def restP (b : List Nat) (N : Nat) : Nat → Nat → Option (Int × Int) → Except Flt (List (Int × Int) × List Int)
  | 0, at_, last => .ok ([], List.replicate N 0)
  | f + 1, at_, last =>
    if at_ < b.length then
      match sgn b at_ 32 with
      | .error e => .error e
      | .ok a1 =>
        if a1 < b.length ∧ b[a1]?.getD 0 = 58 then match colsA b N a1 with
          | .error e => .error e
          | .ok cs => .ok ([], cs)
        else match edgeP b N a1 last with
          | .error e => .error e
          | .ok (x, a2) => match restP b N f a2 (some x) with
            | .error e => .error e
            | .ok (es, cs) => .ok (x :: es, cs)
    else .ok ([], List.replicate N 0)
def parse (b : List Nat) : Except Flt Gr :=
  if 20000 < b.length then .error (4, 20000)
  else match num b 0 24 with
    | .error e => .error e
    | .ok (N, a) => match restP b N b.length a none with
      | .error e => .error e
      | .ok (es, cs) => .ok ⟨N, es, cs⟩
end Go.Proofs.YtjjjohmppehejaaGreat.PlainG
namespace Go.Proofs.YtjjjohmppehejaaGreat.PlainG
theorem getD_at (pre rest : List Nat) (j : Nat) : (pre ++ rest)[pre.length + j]? = rest[j]? := by
  rw [List.getElem?_append_right (by omega), Nat.add_sub_cancel_left]
theorem isD_iff {c : Nat} : isD c = true ↔ 48 ≤ c ∧ c ≤ 57 := by simp [isD]
def noD (post : List Nat) : Prop := ∀ c, post[0]? = some c → isD c = false
theorem dec_len (n : Nat) : (dec n).length = if 9 < n then 2 else 1 := by unfold dec; split <;> rfl
theorem numL_stop {b : List Nat} {from_ f k n : Nat} (h : ¬ (from_ + k < b.length ∧ isD (b[from_ + k]?.getD 0) = true)) : numL b from_ f k n = (k, n) := by
  cases f with
  | zero => rfl
  | succ f => rw [numL, if_neg (fun hh => h ⟨hh.1, hh.2.1⟩)]
theorem numL_dec {pre post : List Nat} {n : Nat} (hn : n ≤ 99) (hp : noD post) : numL (pre ++ (dec n ++ post)) pre.length 3 0 0 = ((dec n).length, n) := by
  have hstop : ∀ f k m, k = (dec n).length → numL (pre ++ (dec n ++ post)) pre.length f k m = (k, m) := by
    intro f k m hk
    apply numL_stop
    rintro ⟨h1, h2⟩
    subst hk
    have h3 : (pre ++ (dec n ++ post))[pre.length + (dec n).length]? = post[0]? := by
      rw [getD_at, List.getElem?_append_right (Nat.le_refl _), Nat.sub_self]
    rw [h3] at h2
    cases hc : post[0]? with
    | none => rw [hc] at h2; simp [isD] at h2
    | some c => rw [hc] at h2; rw [Option.getD_some, hp c hc] at h2; cases h2
  have h0 : ∀ j, (pre ++ (dec n ++ post))[pre.length + j]? = (dec n ++ post)[j]? := getD_at pre _
  by_cases h9 : 9 < n
  · have hd : dec n = [48 + n / 10, 48 + n % 10] := by unfold dec; rw [if_pos h9]
    have hl : (pre ++ (dec n ++ post)).length = pre.length + (2 + post.length) := by rw [hd]; simp; omega
    have g0 : (pre ++ (dec n ++ post))[pre.length + 0]?.getD 0 = 48 + n / 10 := by rw [h0, hd]; rfl
    have g1 : (pre ++ (dec n ++ post))[pre.length + 1]?.getD 0 = 48 + n % 10 := by rw [h0, hd]; rfl
    have g0' : (pre ++ (dec n ++ post))[pre.length]?.getD 0 = 48 + n / 10 := g0
    rw [numL, if_pos ⟨by omega, by rw [g0, isD_iff]; omega, .inl rfl⟩, numL, if_pos ⟨by omega, by rw [g1, isD_iff]; omega, .inr (by rw [g0']; omega)⟩, hstop _ _ _ (by rw [hd]; rfl)]
    rw [g0, g1, hd]
    simp only [List.length_cons, List.length_nil, Prod.mk.injEq, true_and]
    omega
  · have hd : dec n = [48 + n] := by unfold dec; rw [if_neg h9]
    have hl : (pre ++ (dec n ++ post)).length = pre.length + (1 + post.length) := by rw [hd]; simp; omega
    have g0 : (pre ++ (dec n ++ post))[pre.length + 0]?.getD 0 = 48 + n := by rw [h0, hd]; rfl
    rw [numL, if_pos ⟨by omega, by rw [g0, isD_iff]; omega, .inl rfl⟩, hstop _ _ _ (by rw [hd]; rfl)]
    rw [g0, hd]
    simp only [List.length_cons, List.length_nil, Prod.mk.injEq, true_and]
    omega
theorem num_dec {pre post : List Nat} {n : Nat} {top : Int} (hn : n ≤ 99) (ht : (n : Int) ≤ top) (hp : noD post) : num (pre ++ (dec n ++ post)) pre.length top = .ok (n, pre.length + (dec n).length) := by
  unfold num
  rw [numL_dec hn hp]
  have hl := dec_len n
  have h3 : (pre ++ (dec n ++ post))[pre.length + (dec n).length]? = post[0]? := by
    rw [getD_at, List.getElem?_append_right (Nat.le_refl _), Nat.sub_self]
  simp only
  rw [if_neg (by split at hl <;> omega), if_neg, if_neg (by omega)]
  rintro ⟨_, h2⟩
  rw [h3] at h2
  cases hc : post[0]? with
  | none => rw [hc] at h2; simp [isD] at h2
  | some c => rw [hc] at h2; rw [Option.getD_some, hp c hc] at h2; cases h2
theorem sgn_at {pre post : List Nat} {c : Nat} : sgn (pre ++ c :: post) pre.length c = .ok (pre.length + 1) := by
  unfold sgn
  rw [if_pos ⟨by simp, by rw [List.getElem?_append_right (Nat.le_refl _), Nat.sub_self]; rfl⟩]
end Go.Proofs.YtjjjohmppehejaaGreat.PlainG
namespace Go.Proofs.YtjjjohmppehejaaGreat.PlainG
theorem drop_getD {b : List Nat} {i : Nat} (h : i < b.length) : b.drop i = b[i]?.getD 0 :: b.drop (i + 1) := by
  rw [List.drop_eq_getElem_cons h, List.getElem?_eq_getElem h]; rfl
theorem num_inv {b : List Nat} {from_ n a : Nat} {top : Int} (h : num b from_ top = .ok (n, a)) (ht : top ≤ 99) : (n : Int) ≤ top ∧ a ≤ b.length ∧ from_ < a ∧ b.drop from_ = dec n ++ b.drop a := by
  unfold num at h
  obtain ⟨x0, h0⟩ : ∃ x, b[from_]?.getD 0 = x := ⟨_, rfl⟩
  obtain ⟨x1, h1⟩ : ∃ x, b[from_ + 1]?.getD 0 = x := ⟨_, rfl⟩
  obtain ⟨x2, h2⟩ : ∃ x, b[from_ + 2]?.getD 0 = x := ⟨_, rfl⟩
  by_cases c1 : from_ + 0 < b.length ∧ isD (b[from_ + 0]?.getD 0) = true ∧ ((0 : Nat) = 0 ∨ b[from_]?.getD 0 ≠ 48)
  · have e1 : numL b from_ 3 0 0 = numL b from_ 2 1 (10 * 0 + (b[from_ + 0]?.getD 0 - 48)) := by rw [numL, if_pos c1]
    rw [Nat.add_zero, h0] at c1 e1
    have d0 := isD_iff.1 c1.2.1
    by_cases c2 : from_ + 1 < b.length ∧ isD (b[from_ + 1]?.getD 0) = true ∧ (1 = 0 ∨ b[from_]?.getD 0 ≠ 48)
    · have e2 : numL b from_ 2 1 (10 * 0 + (x0 - 48)) = numL b from_ 1 2 (10 * (10 * 0 + (x0 - 48)) + (b[from_ + 1]?.getD 0 - 48)) := by rw [numL, if_pos c2]
      rw [h1, h0] at c2
      rw [h1] at e2
      have d1 := isD_iff.1 c2.2.1
      have d00 : x0 ≠ 48 := by have := c2.2.2; omega
      by_cases c3 : from_ + 2 < b.length ∧ isD (b[from_ + 2]?.getD 0) = true ∧ (2 = 0 ∨ b[from_]?.getD 0 ≠ 48)
      · have e3 : numL b from_ 1 2 (10 * (10 * 0 + (x0 - 48)) + (x1 - 48)) = (3, 10 * (10 * (10 * 0 + (x0 - 48)) + (x1 - 48)) + (b[from_ + 2]?.getD 0 - 48)) := by rw [numL, if_pos c3]; rfl
        rw [e1, e2, e3] at h
        simp only at h
        rw [if_neg (by omega)] at h
        split at h
        · cases h
        · rw [if_pos (by omega)] at h; cases h
      · have e3 : numL b from_ 1 2 (10 * (10 * 0 + (x0 - 48)) + (x1 - 48)) = (2, 10 * (10 * 0 + (x0 - 48)) + (x1 - 48)) := by rw [numL, if_neg c3]
        rw [e1, e2, e3] at h
        simp only at h
        rw [if_neg (by omega)] at h
        split at h
        · cases h
        · split at h
          · cases h
          · injection h with h
            injection h with hn ha
            refine ⟨by omega, by omega, by omega, ?_⟩
            have hd : dec n = [x0, x1] := by
              unfold dec
              rw [if_pos (by omega)]
              congr 1
              · omega
              · congr 1; omega
            rw [drop_getD (by omega), h0, drop_getD (by omega), h1, hd, ← ha]
            rfl
    · have e2 : numL b from_ 2 1 (10 * 0 + (x0 - 48)) = (1, 10 * 0 + (x0 - 48)) := by rw [numL, if_neg c2]
      rw [e1, e2] at h
      simp only at h
      rw [if_neg (by omega)] at h
      split at h
      · cases h
      · split at h
        · cases h
        · injection h with h
          injection h with hn ha
          refine ⟨by omega, by omega, by omega, ?_⟩
          have hd : dec n = [x0] := by
            unfold dec
            rw [if_neg (by omega)]
            congr 1
            omega
          rw [drop_getD (by omega), h0, hd, ← ha]
          rfl
  · have e1 : numL b from_ 3 0 0 = (0, 0) := by rw [numL, if_neg c1]
    rw [e1] at h
    simp at h
theorem num_err {b : List Nat} {from_ : Nat} {top : Int} {e : Flt} (hf : from_ ≤ b.length) (h : num b from_ top = .error e) : e.2 ≤ b.length ∧ e.1 ≠ 0 := by
  unfold num at h
  split at h
  · cases h; exact ⟨hf, by simp⟩
  · split at h
    · rename_i hc
      cases h
      exact ⟨by simp only; omega, by simp⟩
    · split at h
      · cases h; exact ⟨hf, by simp⟩
      · cases h
theorem sgn_inv {b : List Nat} {at_ c a : Nat} (h : sgn b at_ c = .ok a) : a = at_ + 1 ∧ at_ < b.length ∧ b.drop at_ = c :: b.drop a := by
  unfold sgn at h
  split at h
  · rename_i hc
    cases h
    exact ⟨rfl, hc.1, by rw [drop_getD hc.1, hc.2]⟩
  · cases h
theorem sgn_err {b : List Nat} {at_ c : Nat} {e : Flt} (hf : at_ ≤ b.length) (h : sgn b at_ c = .error e) : e.2 ≤ b.length ∧ e.1 ≠ 0 := by
  unfold sgn at h
  split at h
  · cases h
  · cases h; exact ⟨hf, by simp⟩
theorem edgeP_inv {b : List Nat} {N at_ a : Nat} {last : Option (Int × Int)} {x : Int × Int} (hN : N ≤ 24) (h : edgeP b N at_ last = .ok (x, a)) :
    (vert N x.1 && vert N x.2) = true ∧ ¬ x.2 ≤ x.1 ∧ (last.any fun l => !bef l x) = false ∧ a ≤ b.length ∧ at_ < a ∧ b.drop at_ = (dec x.1.toNat ++ 45 :: dec x.2.toNat) ++ b.drop a := by
  unfold edgeP at h
  split at h
  · cases h
  rename_i i a1 hi
  split at h
  · cases h
  rename_i a2 hs
  split at h
  · cases h
  rename_i k a3 hk
  split at h
  · cases h
  rename_i hik
  split at h
  · cases h
  rename_i hb
  injection h with h
  injection h with hx ha
  subst hx; subst ha
  obtain ⟨i1, i2, i3, i4⟩ := num_inv hi (by omega)
  obtain ⟨s1, s2, s3⟩ := sgn_inv hs
  obtain ⟨k1, k2, k3, k4⟩ := num_inv hk (by omega)
  refine ⟨by simp [vert]; omega, by simp only; omega, by simpa using hb, k2, by omega, ?_⟩
  rw [i4, s3, k4]
  simp
theorem edgeP_err {b : List Nat} {N at_ : Nat} {last : Option (Int × Int)} {e : Flt} (hf : at_ ≤ b.length) (hN : N ≤ 24) (h : edgeP b N at_ last = .error e) : e.2 ≤ b.length ∧ e.1 ≠ 0 := by
  unfold edgeP at h
  split at h
  · rename_i e' hi
    cases h; exact num_err hf hi
  rename_i i a1 hi
  obtain ⟨i1, i2, i3, i4⟩ := num_inv hi (by omega)
  split at h
  · rename_i e' hs
    cases h; exact sgn_err i2 hs
  rename_i a2 hs
  obtain ⟨s1, s2, s3⟩ := sgn_inv hs
  split at h
  · rename_i e' hk
    cases h; exact num_err (by omega) hk
  split at h
  · cases h; exact ⟨hf, by simp⟩
  split at h
  · cases h; exact ⟨hf, by simp⟩
  · cases h
theorem colsP_inv {b : List Nat} : ∀ {f at_ a : Nat} {cs : List Int}, at_ ≤ b.length → colsP b f at_ = .ok (cs, a) → cs.length = f ∧ cs.all okC = true ∧ a ≤ b.length ∧ b.drop at_ = (cs.flatMap fun c => 32 :: dec c.toNat) ++ b.drop a
  | 0, at_, a, cs, hl, h => by
    unfold colsP at h
    injection h with h
    injection h with h1 h2
    subst h1; subst h2
    exact ⟨rfl, rfl, hl, rfl⟩
  | f + 1, at_, a, cs, hl, h => by
    unfold colsP at h
    split at h
    · cases h
    rename_i a1 hs
    split at h
    · cases h
    rename_i c a2 hc
    split at h
    · cases h
    rename_i cs' a3 hcs
    injection h with h
    injection h with h1 h2
    subst h1; subst h2
    obtain ⟨s1, s2, s3⟩ := sgn_inv hs
    obtain ⟨c1, c2, c3, c4⟩ := num_inv hc (by omega)
    obtain ⟨r1, r2, r3, r4⟩ := colsP_inv c2 hcs
    refine ⟨by simp [r1], by rw [List.all_cons, r2]; simp [okC]; omega, r3, ?_⟩
    rw [s3, c4, r4]
    simp
theorem colsP_err {b : List Nat} : ∀ {f at_ : Nat} {e : Flt}, at_ ≤ b.length → colsP b f at_ = .error e → e.2 ≤ b.length ∧ e.1 ≠ 0
  | 0, at_, e, hl, h => by unfold colsP at h; cases h
  | f + 1, at_, e, hl, h => by
    unfold colsP at h
    split at h
    · rename_i e' hs; cases h; exact sgn_err hl hs
    rename_i a1 hs
    obtain ⟨s1, s2, s3⟩ := sgn_inv hs
    split at h
    · rename_i e' hc; cases h; exact num_err (by omega) hc
    rename_i c a2 hc
    obtain ⟨c1, c2, c3, c4⟩ := num_inv hc (by omega)
    split at h
    · rename_i e' hcs; cases h; exact colsP_err c2 hcs
    · cases h
end Go.Proofs.YtjjjohmppehejaaGreat.PlainG
namespace Go.Proofs.YtjjjohmppehejaaGreat.PlainG
theorem colsT_zero (N : Nat) : colsT (List.replicate N 0) = [] := by
  unfold colsT
  rw [if_pos (by simp)]
theorem chkC_zero (N : Nat) : chkC N (List.replicate N 0) = 0 := by
  unfold chkC
  rw [if_neg (by simp), if_pos (by simp [okC])]
theorem chkE_cons {n : Int} {last : Option (Int × Int)} {x : Int × Int} {es : List (Int × Int)} : chkE n last (x :: es) = 0 ↔ (vert n x.1 && vert n x.2) = true ∧ ¬ x.2 ≤ x.1 ∧ (last.any fun l => !bef l x) = false ∧ chkE n (some x) es = 0 := by
  rw [chkE]
  cases h1 : (vert n x.1 && vert n x.2)
  · simp
  · simp only [Bool.true_eq_false, if_false, true_and]
    by_cases h2 : x.2 ≤ x.1
    · simp [h2]
    · rw [if_neg h2]
      cases h3 : (last.any fun l => !bef l x)
      · simp [h2]
      · simp
theorem restP_inv {b : List Nat} {N : Nat} (hN : N ≤ 24) : ∀ {f at_ : Nat} {last : Option (Int × Int)} {es : List (Int × Int)} {cs : List Int}, at_ ≤ b.length → b.length ≤ at_ + f → restP b N f at_ last = .ok (es, cs) →
    chkE N last es = 0 ∧ chkC N cs = 0 ∧ b.drop at_ = es.flatMap edgeT ++ colsT cs
  | 0, at_, last, es, cs, hl, hf, h => by
    unfold restP at h
    injection h with h
    injection h with h1 h2
    subst h1; subst h2
    refine ⟨rfl, chkC_zero N, ?_⟩
    rw [colsT_zero, List.drop_of_length_le (by omega)]; rfl
  | f + 1, at_, last, es, cs, hl, hf, h => by
    unfold restP at h
    split at h
    · split at h
      · cases h
      rename_i a1 hs
      obtain ⟨s1, s2, s3⟩ := sgn_inv hs
      split at h
      · rename_i hc
        split at h
        · cases h
        rename_i cs' hcs
        injection h with h
        injection h with h1 h2
        subst h1; subst h2
        unfold colsA at hcs
        split at hcs
        · cases hcs
        rename_i hN0
        split at hcs
        · cases hcs
        rename_i cs2 a2 hp
        split at hcs
        · cases hcs
        rename_i ha2
        split at hcs
        · cases hcs
        rename_i hz
        injection hcs with hcs
        subst hcs
        obtain ⟨p1, p2, p3, p4⟩ := colsP_inv (by omega) hp
        refine ⟨rfl, ?_, ?_⟩
        · unfold chkC; rw [if_neg (by rw [p1]; simp), if_pos p2]
        · rw [s3, drop_getD hc.1, hc.2, p4, List.drop_of_length_le (by omega)]
          unfold colsT
          rw [if_neg hz]
          simp
      · rename_i hc
        split at h
        · cases h
        rename_i x a2 he
        split at h
        · cases h
        rename_i es' cs' hr
        injection h with h
        injection h with h1 h2
        subst h1; subst h2
        obtain ⟨e1, e2, e3, e4, e5, e6⟩ := edgeP_inv hN he
        obtain ⟨r1, r2, r3⟩ := restP_inv hN e4 (by omega) hr
        refine ⟨chkE_cons.2 ⟨e1, e2, e3, r1⟩, r2, ?_⟩
        rw [s3, e6, r3]
        simp [edgeT]
    · injection h with h
      injection h with h1 h2
      subst h1; subst h2
      refine ⟨rfl, chkC_zero N, ?_⟩
      rw [colsT_zero, List.drop_of_length_le (by omega)]; rfl
theorem restP_err {b : List Nat} {N : Nat} (hN : N ≤ 24) : ∀ {f at_ : Nat} {last : Option (Int × Int)} {e : Flt}, at_ ≤ b.length → restP b N f at_ last = .error e → e.2 ≤ b.length ∧ e.1 ≠ 0
  | 0, at_, last, e, hl, h => by unfold restP at h; cases h
  | f + 1, at_, last, e, hl, h => by
    unfold restP at h
    split at h
    · split at h
      · rename_i e' hs; cases h; exact sgn_err hl hs
      rename_i a1 hs
      obtain ⟨s1, s2, s3⟩ := sgn_inv hs
      split at h
      · rename_i hc
        split at h
        · rename_i e' hcs
          cases h
          unfold colsA at hcs
          split at hcs
          · cases hcs; exact ⟨by simp only; omega, by simp⟩
          split at hcs
          · rename_i e2 hp; cases hcs; exact colsP_err (by omega) hp
          rename_i cs2 a2 hp
          obtain ⟨p1, p2, p3, p4⟩ := colsP_inv (by omega) hp
          split at hcs
          · cases hcs; exact ⟨p3, by simp⟩
          split at hcs
          · cases hcs; exact ⟨by simp only; omega, by simp⟩
          · cases hcs
        · cases h
      · rename_i hc
        split at h
        · rename_i e' he; cases h; exact edgeP_err (by omega) hN he
        rename_i x a2 he
        obtain ⟨e1, e2, e3, e4, e5, e6⟩ := edgeP_inv hN he
        split at h
        · rename_i e' hr; cases h; exact restP_err hN e4 hr
        · cases h
    · cases h
theorem parse_inv {b : List Nat} {g : Gr} (h : parse b = .ok g) : chkGr g = 0 ∧ textG g = b := by
  unfold parse at h
  split at h
  · cases h
  split at h
  · cases h
  rename_i N a hn
  split at h
  · cases h
  rename_i es cs hr
  injection h with h
  subst h
  obtain ⟨n1, n2, n3, n4⟩ := num_inv hn (by omega)
  obtain ⟨r1, r2, r3⟩ := restP_inv (by omega) n2 (by omega) hr
  refine ⟨?_, ?_⟩
  · unfold chkGr
    rw [if_neg (by simp only; omega), if_neg (by simp [r1])]
    exact r2
  · unfold textG
    rw [List.drop_zero] at n4
    conv => rhs; rw [n4, r3]
    simp
theorem parse_err {b : List Nat} {e : Flt} (h : parse b = .error e) (hl : b.length ≤ 20000) : e.2 ≤ b.length ∧ e.1 ≠ 0 := by
  unfold parse at h
  rw [if_neg (by omega)] at h
  split at h
  · rename_i e' hn; cases h; exact num_err (by omega) hn
  rename_i N a hn
  obtain ⟨n1, n2, n3, n4⟩ := num_inv hn (by omega)
  split at h
  · rename_i e' hr; cases h; exact restP_err (by omega) n2 hr
  · cases h
def codeE (x : Int × Int) : Int := 24 * x.1 + x.2
theorem chkE_len {n : Int} (hn : n ≤ 24) : ∀ {es : List (Int × Int)} {l : Int × Int}, (vert n l.1 && vert n l.2) = true → chkE n (some l) es = 0 → (es.length : Int) ≤ 575 - codeE l
  | [], l, hv, h => by simp [vert] at hv; simp [codeE]; omega
  | x :: es, l, hv, h => by
    obtain ⟨h1, h2, h3, h4⟩ := chkE_cons.1 h
    have ih := chkE_len hn h1 h4
    simp [vert] at hv h1
    simp [bef] at h3
    rw [List.length_cons]
    unfold codeE at ih ⊢
    omega
theorem chkE_len0 {n : Int} (hn : n ≤ 24) {es : List (Int × Int)} (h : chkE n none es = 0) : es.length ≤ 576 := by
  cases es with
  | nil => simp
  | cons x es =>
    obtain ⟨h1, h2, h3, h4⟩ := chkE_cons.1 h
    have := chkE_len hn h1 h4
    simp [vert] at h1
    unfold codeE at this
    rw [List.length_cons]
    omega
end Go.Proofs.YtjjjohmppehejaaGreat.PlainG
namespace Go.Proofs.YtjjjohmppehejaaGreat.PlainG
theorem noD_nil : noD [] := fun c h => by simp at h
theorem noD_cons {c : Nat} {l : List Nat} (h : isD c = false) : noD (c :: l) := fun d hd => by simp at hd; subst hd; exact h
def colT (c : Int) : List Nat := 32 :: dec c.toNat
theorem noD_cols (cs : List Int) : noD (cs.flatMap colT) := by
  cases cs with
  | nil => exact noD_nil
  | cons c cs => rw [List.flatMap_cons]; exact noD_cons (by decide)
theorem noD_colsT (cs : List Int) : noD (colsT cs) := by
  unfold colsT
  split
  · exact noD_nil
  · exact noD_cons (by decide)
theorem noD_rest (es : List (Int × Int)) (cs : List Int) : noD (es.flatMap edgeT ++ colsT cs) := by
  cases es with
  | nil => exact noD_colsT cs
  | cons x es => rw [List.flatMap_cons]; exact noD_cons (by decide)
theorem num_dec' {b pre post : List Nat} {n at_ : Nat} {top : Int} (hb : b = pre ++ (dec n ++ post)) (ha : at_ = pre.length) (hn : n ≤ 99) (ht : (n : Int) ≤ top) (hp : noD post) : num b at_ top = .ok (n, (pre ++ dec n).length) := by
  subst hb; subst ha
  rw [num_dec hn ht hp, List.length_append]
theorem sgn_at' {b pre post : List Nat} {c at_ : Nat} (hb : b = pre ++ c :: post) (ha : at_ = pre.length) : sgn b at_ c = .ok (pre ++ [c]).length := by
  subst hb; subst ha
  rw [sgn_at]; simp
theorem colsP_text : ∀ (cs : List Int) (pre : List Nat), cs.all okC = true → colsP (pre ++ cs.flatMap colT) cs.length pre.length = .ok (cs, (pre ++ cs.flatMap colT).length)
  | [], pre, _ => by simp [colsP]
  | c :: cs, pre, h => by
    rw [List.all_cons, Bool.and_eq_true] at h
    have hc : 0 ≤ c ∧ c ≤ 99 := by have := h.1; simp [okC] at this; omega
    have hb : pre ++ (c :: cs).flatMap colT = pre ++ 32 :: (dec c.toNat ++ cs.flatMap colT) := by simp [colT]
    have hb2 : pre ++ (c :: cs).flatMap colT = (pre ++ [32]) ++ (dec c.toNat ++ cs.flatMap colT) := by simp [colT]
    have hb3 : pre ++ (c :: cs).flatMap colT = (pre ++ [32] ++ dec c.toNat) ++ cs.flatMap colT := by simp [colT]
    have ih := colsP_text cs (pre ++ [32] ++ dec c.toNat) h.2
    rw [← hb3] at ih
    rw [List.length_cons, colsP, sgn_at' hb rfl]
    simp only
    rw [num_dec' hb2 rfl (by omega) (by omega) (noD_cols cs)]
    simp only
    rw [ih]
    simp only [show ((c.toNat : Nat) : Int) = c by omega]
theorem dec_head (n : Nat) (hn : n ≤ 99) (l : List Nat) : ∃ c r, dec n ++ l = c :: r ∧ 48 ≤ c ∧ c ≤ 57 := by
  unfold dec
  split
  · exact ⟨_, _, rfl, by omega, by omega⟩
  · exact ⟨_, _, rfl, by omega, by omega⟩
theorem edgeP_text {b pre post : List Nat} {N : Nat} {last : Option (Int × Int)} {x : Int × Int} (hN : N ≤ 24) (hb : b = pre ++ (dec x.1.toNat ++ 45 :: dec x.2.toNat) ++ post) (hp : noD post) (h1 : (vert N x.1 && vert N x.2) = true) (h2 : ¬ x.2 ≤ x.1) (h3 : (last.any fun l => !bef l x) = false) :
    edgeP b N pre.length last = .ok (x, (pre ++ (dec x.1.toNat ++ 45 :: dec x.2.toNat)).length) := by
  simp [vert] at h1
  have hb1 : b = pre ++ (dec x.1.toNat ++ (45 :: (dec x.2.toNat ++ post))) := by rw [hb]; simp
  have hb2 : b = (pre ++ dec x.1.toNat) ++ 45 :: (dec x.2.toNat ++ post) := by rw [hb]; simp
  have hb3 : b = (pre ++ dec x.1.toNat ++ [45]) ++ (dec x.2.toNat ++ post) := by rw [hb]; simp
  unfold edgeP
  rw [num_dec' hb1 rfl (by omega) (by omega) (noD_cons (by decide))]
  simp only
  rw [sgn_at' hb2 rfl]
  simp only
  rw [num_dec' hb3 rfl (by omega) (by omega) hp]
  simp only
  have e : (((x.1.toNat : Nat) : Int), ((x.2.toNat : Nat) : Int)) = x := by
    obtain ⟨x1, x2⟩ := x
    simp only at h1 ⊢
    rw [show ((x1.toNat : Nat) : Int) = x1 by omega, show ((x2.toNat : Nat) : Int) = x2 by omega]
  rw [if_neg (by omega), e, if_neg (by rw [h3]; simp)]
  simp
theorem restP_text {N : Nat} (hN : N ≤ 24) {cs : List Int} (hcl : cs.length = N) (hc : cs.all okC = true) : ∀ (es : List (Int × Int)) (pre : List Nat) (f : Nat) (last : Option (Int × Int)), chkE N last es = 0 → (es.flatMap edgeT ++ colsT cs).length ≤ f →
    restP (pre ++ (es.flatMap edgeT ++ colsT cs)) N f pre.length last = .ok (es, cs)
  | [], pre, f, last, he, hf => by
    by_cases hz : cs.all (· == 0) = true
    · have h0 : colsT cs = [] := by unfold colsT; rw [if_pos hz]
      have hr : List.replicate N 0 = cs := by
        rw [← hcl]
        refine (List.eq_replicate_iff.2 ⟨rfl, fun b hb => ?_⟩).symm
        have := List.all_eq_true.1 hz b hb
        simpa using this
      rw [List.flatMap_nil, List.nil_append, h0, List.append_nil]
      cases f with
      | zero => rw [restP, hr]
      | succ f => rw [restP, if_neg (by omega), hr]
    · have h0 : colsT cs = 32 :: 58 :: cs.flatMap colT := by unfold colsT; rw [if_neg hz]; rfl
      rw [List.flatMap_nil, List.nil_append, h0] at hf ⊢
      obtain ⟨f, rfl⟩ : ∃ g, f = g + 1 := ⟨f - 1, by simp at hf; omega⟩
      have hN0 : N ≠ 0 := by
        rintro rfl
        have : cs = [] := List.eq_nil_of_length_eq_zero hcl
        subst this
        exact hz rfl
      have hb : pre ++ 32 :: 58 :: cs.flatMap colT = (pre ++ [32, 58]) ++ cs.flatMap colT := by simp
      have hcp := colsP_text cs (pre ++ [32, 58]) hc
      rw [← hb] at hcp
      rw [restP, if_pos (by simp), sgn_at' rfl rfl]
      simp only
      have hg : (pre ++ 32 :: 58 :: cs.flatMap colT)[(pre ++ [32]).length]?.getD 0 = 58 := by
        rw [show pre ++ 32 :: 58 :: cs.flatMap colT = (pre ++ [32]) ++ 58 :: cs.flatMap colT by simp, List.getElem?_append_right (Nat.le_refl _), Nat.sub_self]; rfl
      rw [if_pos ⟨by simp, hg⟩]
      have hca : colsA (pre ++ 32 :: 58 :: cs.flatMap colT) N (pre ++ [32]).length = .ok cs := by
        unfold colsA
        rw [if_neg hN0]
        have e9 : colsP (pre ++ 32 :: 58 :: cs.flatMap colT) N ((pre ++ [32]).length + 1) = .ok (cs, (pre ++ 32 :: 58 :: cs.flatMap colT).length) := by
          rw [← hcl, ← hcp]; congr 1; simp
        rw [e9]
        simp only
        rw [if_neg (by omega), if_neg hz]
      rw [hca]
  | x :: es, pre, f, last, he, hf => by
    obtain ⟨h1, h2, h3, h4⟩ := chkE_cons.1 he
    have hb : pre ++ ((x :: es).flatMap edgeT ++ colsT cs) = pre ++ 32 :: ((dec x.1.toNat ++ 45 :: dec x.2.toNat) ++ (es.flatMap edgeT ++ colsT cs)) := by simp [edgeT]
    have hb2 : pre ++ ((x :: es).flatMap edgeT ++ colsT cs) = (pre ++ [32]) ++ (dec x.1.toNat ++ 45 :: dec x.2.toNat) ++ (es.flatMap edgeT ++ colsT cs) := by simp [edgeT]
    have hb3 : pre ++ ((x :: es).flatMap edgeT ++ colsT cs) = ((pre ++ [32]) ++ (dec x.1.toNat ++ 45 :: dec x.2.toNat)) ++ (es.flatMap edgeT ++ colsT cs) := hb2
    have hfl : ((x :: es).flatMap edgeT ++ colsT cs).length = (edgeT x).length + (es.flatMap edgeT ++ colsT cs).length := by rw [List.flatMap_cons]; simp only [List.length_append]; omega
    have hpos : 0 < (edgeT x).length := by simp [edgeT]
    obtain ⟨f, rfl⟩ : ∃ g, f = g + 1 := ⟨f - 1, by omega⟩
    have ih := restP_text hN hcl hc es ((pre ++ [32]) ++ (dec x.1.toNat ++ 45 :: dec x.2.toNat)) f (some x) h4 (by omega)
    rw [← hb3] at ih
    have hv := h1
    simp [vert] at hv
    rw [restP, if_pos (by rw [hb]; simp), sgn_at' hb rfl]
    simp only
    rw [if_neg]
    · rw [edgeP_text hN hb2 (noD_rest es cs) h1 h2 h3]
      simp only
      rw [ih]
    · rintro ⟨_, hg⟩
      obtain ⟨c, r, hr, c1, c2⟩ := dec_head x.1.toNat (by omega) (45 :: dec x.2.toNat ++ (es.flatMap edgeT ++ colsT cs))
      have hb4 : pre ++ ((x :: es).flatMap edgeT ++ colsT cs) = (pre ++ [32]) ++ (c :: r) := by rw [hb, ← hr]; simp
      rw [hb4, List.getElem?_append_right (Nat.le_refl _), Nat.sub_self, List.getElem?_cons_zero, Option.getD_some] at hg
      omega
theorem chkGr_ok {g : Gr} : chkGr g = 0 ↔ 0 ≤ g.n ∧ g.n ≤ 24 ∧ chkE g.n none g.es = 0 ∧ (g.cs.length : Int) = g.n ∧ g.cs.all okC = true := by
  unfold chkGr
  split
  · constructor
    · intro h; omega
    · rintro ⟨h1, h2, _⟩; omega
  · split
    · rename_i h
      constructor
      · intro h2; exact absurd h2 h
      · rintro ⟨_, _, h2, _⟩; exact absurd h2 h
    · rename_i h
      unfold chkC
      split
      · rename_i hl
        constructor
        · intro h2; omega
        · rintro ⟨_, _, _, h2, _⟩; exact absurd h2 hl
      · rename_i hl
        split
        · rename_i hc
          constructor
          · intro _; exact ⟨by omega, by omega, by simpa using h, by simpa using hl, hc⟩
          · intro _; rfl
        · rename_i hc
          constructor
          · intro h2; omega
          · rintro ⟨_, _, _, _, h2⟩; exact absurd h2 hc
theorem dec_le (n : Nat) : (dec n).length ≤ 2 := by unfold dec; split <;> simp
theorem edges_len : ∀ es : List (Int × Int), (es.flatMap edgeT).length ≤ 6 * es.length
  | [] => by simp
  | x :: es => by
    have := edges_len es
    have h1 := dec_le x.1.toNat
    have h2 := dec_le x.2.toNat
    rw [List.flatMap_cons, List.length_append, List.length_cons]
    simp only [edgeT, List.length_cons, List.length_append]
    omega
theorem cols_len : ∀ cs : List Int, (cs.flatMap colT).length ≤ 3 * cs.length
  | [] => by simp
  | c :: cs => by
    have := cols_len cs
    have h1 := dec_le c.toNat
    rw [List.flatMap_cons, List.length_append, List.length_cons]
    simp only [colT, List.length_cons]
    omega
theorem colsT_len (cs : List Int) : (colsT cs).length ≤ 3 * cs.length + 2 := by
  unfold colsT
  split
  · simp
  · have := cols_len cs
    show (32 :: 58 :: cs.flatMap colT).length ≤ _
    simp only [List.length_cons]; omega
theorem text_len {g : Gr} (h : chkGr g = 0) : (textG g).length ≤ 3600 := by
  obtain ⟨h1, h2, h3, h4, h5⟩ := chkGr_ok.1 h
  have := chkE_len0 h2 h3
  have := edges_len g.es
  have := colsT_len g.cs
  have := dec_le g.n.toNat
  unfold textG
  simp only [List.length_append]
  omega
theorem parse_text {g : Gr} (h : chkGr g = 0) : parse (textG g) = .ok g := by
  obtain ⟨h1, h2, h3, h4, h5⟩ := chkGr_ok.1 h
  obtain ⟨N, hN⟩ : ∃ N : Nat, g.n = N := ⟨g.n.toNat, by omega⟩
  have hl := text_len h
  have hb : textG g = [] ++ (dec N ++ (g.es.flatMap edgeT ++ colsT g.cs)) := by unfold textG; rw [hN]; simp
  unfold parse
  have hnum : num (textG g) 0 24 = .ok (N, ([] ++ dec N).length) := num_dec' hb rfl (by omega) (by omega) (noD_rest _ _)
  rw [if_neg (by omega), hnum]
  simp only [List.nil_append]
  have hr := restP_text (N := N) (by omega) (cs := g.cs) (by omega) h5 g.es (dec N) (textG g).length none (by rw [← hN]; exact h3) (by rw [hb]; simp)
  rw [List.nil_append] at hb
  rw [← hb] at hr
  rw [hr]
  simp only [← hN]
end Go.Proofs.YtjjjohmppehejaaGreat.PlainG

namespace Go.Proofs.YtjjjohmppehejaaGreat.PlainG
abbrev E2 := Int × Int
theorem bef_iff {x y : E2} : bef x y = true ↔ x.1 < y.1 ∨ (x.1 = y.1 ∧ x.2 < y.2) := by simp [bef]
theorem bef_irrefl (x : E2) : ¬ bef x x = true := by rw [bef_iff]; omega
theorem bef_trans {x y z : E2} (h : bef x y = true) (k : bef y z = true) : bef x z = true := by rw [bef_iff] at *; omega
theorem bef_eq {x y : E2} (h : ¬ bef x y = true) (k : ¬ bef y x = true) : x = y := by
  rw [bef_iff] at *
  obtain ⟨a, b⟩ := x
  obtain ⟨c, d⟩ := y
  simp only at h k
  have h1 : a = c := by omega
  have h2 : b = d := by omega
  rw [h1, h2]
def Srt (es : List E2) : Prop := es.Pairwise fun x y => bef x y = true
theorem srt_uniq : ∀ {a b : List E2}, Srt a → Srt b → (∀ x, x ∈ a ↔ x ∈ b) → a = b
  | [], [], _, _, _ => rfl
  | [], y :: b, _, _, h => by have := (h y).2 (by simp); simp at this
  | x :: a, [], _, _, h => by have := (h x).1 (by simp); simp at this
  | x :: a, y :: b, ha, hb, h => by
    obtain ⟨ha1, ha2⟩ := List.pairwise_cons.1 ha
    obtain ⟨hb1, hb2⟩ := List.pairwise_cons.1 hb
    have hxy : x = y := by
      have h1 := (h x).1 (by simp)
      have h2 := (h y).2 (by simp)
      rcases List.mem_cons.1 h1 with e | e
      · exact e
      · rcases List.mem_cons.1 h2 with e2 | e2
        · exact e2.symm
        · exact absurd (bef_trans (ha1 y e2) (hb1 x e)) (bef_irrefl x)
    subst hxy
    have : a = b := srt_uniq ha2 hb2 fun z => by
      constructor
      · intro hz
        rcases List.mem_cons.1 ((h z).1 (List.mem_cons_of_mem _ hz)) with e | e
        · subst e; exact absurd (ha1 z hz) (bef_irrefl z)
        · exact e
      · intro hz
        rcases List.mem_cons.1 ((h z).2 (List.mem_cons_of_mem _ hz)) with e | e
        · subst e; exact absurd (hb1 z hz) (bef_irrefl z)
        · exact e
    rw [this]
/-- Neighbours that are alike become one. -/
def compact : List E2 → List E2
  | [] => []
  | x :: r => match compact r with
    | [] => [x]
    | y :: t => if x = y then y :: t else x :: y :: t
theorem compact_mem : ∀ (l : List E2) (z : E2), z ∈ compact l ↔ z ∈ l
  | [], z => by simp [compact]
  | x :: r, z => by
    have ih := compact_mem r z
    rw [compact]
    cases hc : compact r with
    | nil => rw [hc] at ih; simp only [List.mem_cons, List.not_mem_nil, or_false]; simp at ih; simp [ih]
    | cons y t =>
      rw [hc] at ih
      simp only
      split
      · rename_i h; subst h; rw [ih, List.mem_cons]; constructor
        · intro h; exact .inr h
        · rintro (h | h)
          · subst h; exact ih.1 (by simp)
          · exact h
      · rw [List.mem_cons, ih, List.mem_cons]
theorem compact_head {l : List E2} {x : E2} {t : List E2} (h : compact l = x :: t) : ∃ r, l = x :: r := by
  cases l with
  | nil => simp [compact] at h
  | cons y r =>
    rw [compact] at h
    cases hc : compact r with
    | nil => rw [hc] at h; simp only at h; cases h; exact ⟨_, rfl⟩
    | cons z s =>
      rw [hc] at h
      simp only at h
      split at h
      · rename_i e; cases h; exact ⟨_, by rw [e]⟩
      · cases h; exact ⟨_, rfl⟩
theorem compact_srt : ∀ {l : List E2}, l.Pairwise (fun x y => ¬ bef y x = true) → Srt (compact l)
  | [], _ => List.Pairwise.nil
  | x :: r, h => by
    obtain ⟨h1, h2⟩ := List.pairwise_cons.1 h
    have ih := compact_srt h2
    rw [compact]
    cases hc : compact r with
    | nil => simp [Srt]
    | cons y t =>
      rw [hc] at ih
      simp only
      split
      · exact ih
      · rename_i hne
        have hy : ∀ z ∈ y :: t, z ∈ r := fun z hz => (compact_mem r z).1 (by rw [hc]; exact hz)
        have hxy : bef x y = true := by
          have h3 := h1 y (hy y (by simp))
          rcases Bool.eq_false_or_eq_true (bef x y) with e | e
          · exact e
          · exact absurd (bef_eq (by simp [e]) h3) hne
        refine List.pairwise_cons.2 ⟨fun z hz => ?_, ih⟩
        rcases List.mem_cons.1 hz with e | e
        · subst e; exact hxy
        · exact bef_trans hxy ((List.pairwise_cons.1 ih).1 z e)
/-- All pairs i < k with f i k, in order. -/
def canon (n : Nat) (f : Nat → Nat → Bool) : List E2 := (List.range n).flatMap fun (i : Nat) => ((List.range n).filter fun (k : Nat) => decide (i < k) && f i k).map fun (k : Nat) => ((i : Int), (k : Int))
theorem mem_canon {n : Nat} {f : Nat → Nat → Bool} {x : E2} : x ∈ canon n f ↔ ∃ i k : Nat, i < k ∧ k < n ∧ f i k = true ∧ x = ((i : Int), (k : Int)) := by
  simp only [canon, List.mem_flatMap, List.mem_range, List.mem_map, List.mem_filter, Bool.and_eq_true, decide_eq_true_eq]
  constructor
  · rintro ⟨i, hi, k, ⟨hk, h1, h2⟩, rfl⟩; exact ⟨i, k, h1, hk, h2, rfl⟩
  · rintro ⟨i, k, h1, hk, h2, rfl⟩; exact ⟨i, by omega, k, ⟨hk, h1, h2⟩, rfl⟩
theorem range_pw (n : Nat) : (List.range n).Pairwise (· < ·) := List.pairwise_lt_range
theorem canon_srt (n : Nat) (f : Nat → Nat → Bool) : Srt (canon n f) := by
  unfold Srt canon
  rw [List.pairwise_flatMap]
  constructor
  · intro i _
    rw [List.pairwise_map]
    refine ((range_pw n).filter _).imp fun {a b} h => ?_
    exact bef_iff.2 (.inr ⟨rfl, Int.ofNat_lt.2 h⟩)
  · refine (range_pw n).imp fun {a b} h => ?_
    intro x hx y hy
    obtain ⟨_, _, rfl⟩ := List.mem_map.1 hx
    obtain ⟨_, _, rfl⟩ := List.mem_map.1 hy
    exact bef_iff.2 (.inl (Int.ofNat_lt.2 h))
/-- Whether two vertices are joined. -/
def adj (es : List E2) (i k : Nat) : Bool := es.any fun x => (x.1 == (i : Int) && x.2 == (k : Int)) || (x.1 == (k : Int) && x.2 == (i : Int))
theorem adj_iff {es : List E2} {i k : Nat} : adj es i k = true ↔ ((i : Int), (k : Int)) ∈ es ∨ ((k : Int), (i : Int)) ∈ es := by
  simp only [adj, List.any_eq_true, Bool.or_eq_true, Bool.and_eq_true, beq_iff_eq]
  constructor
  · rintro ⟨⟨a, b⟩, hm, ⟨rfl, rfl⟩ | ⟨rfl, rfl⟩⟩
    · exact .inl hm
    · exact .inr hm
  · rintro (h | h)
    · exact ⟨_, h, .inl ⟨rfl, rfl⟩⟩
    · exact ⟨_, h, .inr ⟨rfl, rfl⟩⟩
theorem adj_symm (es : List E2) (i k : Nat) : adj es i k = adj es k i := by
  rw [Bool.eq_iff_iff, adj_iff, adj_iff]; constructor <;> (rintro (h | h); exact .inr h; exact .inl h)
/-- Edges whose ends are vertices, the least first, in order. -/
theorem chkE_srt {n : Int} : ∀ {es : List E2} {l : Option E2}, chkE n l es = 0 → Srt es ∧ (∀ x ∈ es, 0 ≤ x.1 ∧ x.1 < x.2 ∧ x.2 < n) ∧ (∀ y, l = some y → ∀ x ∈ es, bef y x = true)
  | [], l, h => ⟨List.Pairwise.nil, by simp, by simp⟩
  | x :: es, l, h => by
    obtain ⟨h1, h2, h3, h4⟩ := chkE_cons.1 h
    obtain ⟨i1, i2, i3⟩ := chkE_srt h4
    have i4 := i3 x rfl
    simp [vert] at h1
    refine ⟨List.pairwise_cons.2 ⟨i4, i1⟩, ?_, ?_⟩
    · intro z hz
      rcases List.mem_cons.1 hz with e | e
      · subst e; omega
      · exact i2 z e
    · intro y hy z hz
      subst hy
      have hb : bef y x = true := by simpa using h3
      rcases List.mem_cons.1 hz with e | e
      · subst e; exact hb
      · exact bef_trans hb (i4 z e)
theorem chkE_of {n : Int} : ∀ {es : List E2} {l : Option E2}, Srt es → (∀ x ∈ es, 0 ≤ x.1 ∧ x.1 < x.2 ∧ x.2 < n) → (∀ y, l = some y → ∀ x ∈ es, bef y x = true) → chkE n l es = 0
  | [], l, _, _, _ => rfl
  | x :: es, l, h1, h2, h3 => by
    obtain ⟨i1, i2⟩ := List.pairwise_cons.1 h1
    have hx := h2 x (by simp)
    refine chkE_cons.2 ⟨by simp [vert]; omega, by omega, ?_, chkE_of i2 (fun z hz => h2 z (List.mem_cons_of_mem _ hz)) (fun y hy z hz => by cases hy; exact i1 z hz)⟩
    cases l with
    | none => rfl
    | some y => simp [h3 y rfl x (by simp)]
theorem canon_adj {n : Nat} {es : List E2} (h : chkE n none es = 0) : es = canon n (adj es) := by
  obtain ⟨h1, h2, _⟩ := chkE_srt h
  refine srt_uniq h1 (canon_srt _ _) fun x => ?_
  rw [mem_canon]
  constructor
  · intro hx
    obtain ⟨a, b⟩ := x
    have := h2 _ hx
    simp only at this
    refine ⟨a.toNat, b.toNat, by omega, by omega, ?_, ?_⟩
    · rw [adj_iff]; left
      rw [show ((a.toNat : Nat) : Int) = a by omega, show ((b.toNat : Nat) : Int) = b by omega]; exact hx
    · rw [show ((a.toNat : Nat) : Int) = a by omega, show ((b.toNat : Nat) : Int) = b by omega]
  · rintro ⟨i, k, hik, hk, ha, rfl⟩
    rcases adj_iff.1 ha with h | h
    · exact h
    · have := h2 _ h; simp only at this; omega
theorem chkE_canon (n : Nat) (f : Nat → Nat → Bool) : chkE n none (canon n f) = 0 := by
  refine chkE_of (canon_srt n f) ?_ (by simp)
  intro x hx
  obtain ⟨i, k, h1, h2, _, rfl⟩ := mem_canon.1 hx
  simp only; omega
end Go.Proofs.YtjjjohmppehejaaGreat.PlainG

namespace Go.Proofs.YtjjjohmppehejaaGreat.PlainG
def pF (n : Int) : List E2 → Int
  | [] => 0
  | x :: r => if (vert n x.1 && vert n x.2) = false then 2 else if x.1 = x.2 then 3 else pF n r
def fill (n : Int) (cs : List Int) : List Int := if cs.length = 0 then List.replicate n.toNat 0 else cs
def makeA (n : Int) (ps : List E2) (cs : List Int) : Gr × Int :=
  if n < 0 ∨ 24 < n then (⟨0, [], []⟩, 2)
  else if pF n ps ≠ 0 then (⟨0, [], []⟩, pF n ps)
  else if chkC n (fill n cs) ≠ 0 then (⟨0, [], []⟩, chkC n (fill n cs))
  else (⟨n, canon n.toNat (adj ps), fill n cs⟩, 0)
theorem pF_drop {n : Int} {ps : List E2} {k : Nat} {x : E2} (hx : ps[k]? = some x) : pF n (ps.drop k) = if (vert n x.1 && vert n x.2) = false then 2 else if x.1 = x.2 then 3 else pF n (ps.drop (k + 1)) := by
  obtain ⟨hk, rfl⟩ := List.getElem?_eq_some_iff.1 hx
  rw [List.drop_eq_getElem_cons hk, pF]
theorem pF_ok {n : Int} : ∀ {ps : List E2}, pF n ps = 0 → ∀ x ∈ ps, 0 ≤ x.1 ∧ x.1 < n ∧ 0 ≤ x.2 ∧ x.2 < n ∧ x.1 ≠ x.2
  | [], _, x, hx => by simp at hx
  | y :: r, h, x, hx => by
    rw [pF] at h
    split at h
    · simp at h
    · rename_i hv
      split at h
      · simp at h
      · rename_i hne
        rcases List.mem_cons.1 hx with e | e
        · subst e
          simp [vert] at hv
          omega
        · exact pF_ok h x e
theorem adj_ord {ps : List E2} {i k : Nat} : adj ps i k = true ↔ ((min (i : Int) k, max (i : Int) k) : E2) ∈ ps.map (fun x => (min x.1 x.2, max x.1 x.2)) := by
  rw [adj_iff, List.mem_map]
  constructor
  · rintro (h | h)
    · exact ⟨_, h, rfl⟩
    · exact ⟨_, h, by simp only; rw [Int.min_comm, Int.max_comm]⟩
  · rintro ⟨⟨a, b⟩, h, e⟩
    injection e with e1 e2
    simp only at e1 e2
    have : (a = (i : Int) ∧ b = (k : Int)) ∨ (a = (k : Int) ∧ b = (i : Int)) := by omega
    rcases this with ⟨rfl, rfl⟩ | ⟨rfl, rfl⟩
    · exact .inl h
    · exact .inr h
theorem make_canon {n : Nat} {ps es : List E2} (hp : pF n ps = 0) (hs : Srt es) (hm : ∀ x, x ∈ es ↔ x ∈ ps.map (fun x => (min x.1 x.2, max x.1 x.2))) : es = canon n (adj ps) := by
  have hok := pF_ok hp
  refine srt_uniq hs (canon_srt _ _) fun x => ?_
  rw [hm, mem_canon]
  constructor
  · intro h
    obtain ⟨⟨a, b⟩, h1, rfl⟩ := List.mem_map.1 h
    have h2 := hok _ h1
    simp only at h2
    refine ⟨(min a b).toNat, (max a b).toNat, by omega, by omega, ?_, ?_⟩
    · rw [adj_ord]
      have e1 : (((min a b).toNat : Nat) : Int) = min a b := by omega
      have e2 : (((max a b).toNat : Nat) : Int) = max a b := by omega
      rw [e1, e2, show min (min a b) (max a b) = min a b by omega, show max (min a b) (max a b) = max a b by omega]
      exact h
    · simp only
      rw [show (((min a b).toNat : Nat) : Int) = min a b by omega, show (((max a b).toNat : Nat) : Int) = max a b by omega]
  · rintro ⟨i, k, hik, hk, ha, rfl⟩
    rw [adj_ord] at ha
    rwa [show min (i : Int) k = i by omega, show max (i : Int) k = k by omega] at ha
end Go.Proofs.YtjjjohmppehejaaGreat.PlainG

namespace Go.Proofs.YtjjjohmppehejaaGreat.PlainG
def upto (n : Nat) (f : Nat → Nat → Bool) (i k : Nat) : List E2 := (canon n f).filter fun x => bef x ((i : Int), (k : Int))
theorem upto_cong {n : Nat} {f : Nat → Nat → Bool} {i k i' k' : Nat} (h : ∀ a b : Nat, a < b → b < n → f a b = true → ((a < i ∨ (a = i ∧ b < k)) ↔ (a < i' ∨ (a = i' ∧ b < k')))) : upto n f i k = upto n f i' k' := by
  unfold upto
  refine List.filter_congr fun x hx => ?_
  obtain ⟨a, b, hab, hb, hf, rfl⟩ := mem_canon.1 hx
  have := h a b hab hb hf
  rw [Bool.eq_iff_iff, bef_iff, bef_iff]
  simp only
  omega
theorem upto_start (n : Nat) (f : Nat → Nat → Bool) : upto n f 0 0 = [] := by
  unfold upto
  rw [List.filter_eq_nil_iff]
  intro x hx h
  obtain ⟨a, b, hab, hb, hf, rfl⟩ := mem_canon.1 hx
  rw [bef_iff] at h
  simp only at h
  omega
theorem upto_row (n : Nat) (f : Nat → Nat → Bool) (i : Nat) : upto n f i (i + 1) = upto n f i 0 := upto_cong fun a b hab hb hf => by omega
theorem upto_next (n : Nat) (f : Nat → Nat → Bool) (i : Nat) {k : Nat} (hk : n ≤ k) : upto n f (i + 1) 0 = upto n f i k := upto_cong fun a b hab hb hf => by omega
theorem upto_end (n : Nat) (f : Nat → Nat → Bool) {i : Nat} (hi : n ≤ i) : upto n f i 0 = canon n f := by
  unfold upto
  rw [List.filter_eq_self]
  intro x hx
  obtain ⟨a, b, hab, hb, hf, rfl⟩ := mem_canon.1 hx
  rw [bef_iff]
  simp only
  omega
theorem upto_no {n : Nat} {f : Nat → Nat → Bool} {i k : Nat} (h : f i k = false) : upto n f i (k + 1) = upto n f i k := upto_cong fun a b hab hb hf => by
  have : ¬ (a = i ∧ b = k) := by rintro ⟨rfl, rfl⟩; rw [h] at hf; cases hf
  omega
theorem upto_yes {n : Nat} {f : Nat → Nat → Bool} {i k : Nat} (hik : i < k) (hk : k < n) (h : f i k = true) : upto n f i (k + 1) = upto n f i k ++ [((i : Int), (k : Int))] := by
  refine srt_uniq ((canon_srt n f).filter _) ?_ fun x => ?_
  · refine List.pairwise_append.2 ⟨(canon_srt n f).filter _, List.pairwise_singleton _ _, ?_⟩
    intro x hx y hy
    rw [List.mem_singleton.1 hy]
    exact (List.mem_filter.1 hx).2
  · unfold upto
    rw [List.mem_append, List.mem_filter, List.mem_filter, List.mem_singleton, mem_canon]
    constructor
    · rintro ⟨⟨a, b, hab, hb, hf, rfl⟩, h2⟩
      rw [bef_iff] at h2
      simp only at h2
      by_cases e : a = i ∧ b = k
      · obtain ⟨rfl, rfl⟩ := e; exact .inr rfl
      · refine .inl ⟨⟨a, b, hab, hb, hf, rfl⟩, ?_⟩
        rw [bef_iff]; simp only; omega
    · rintro (⟨h1, h2⟩ | rfl)
      · refine ⟨h1, ?_⟩
        obtain ⟨a, b, hab, hb, hf, rfl⟩ := h1
        rw [bef_iff] at h2 ⊢; simp only at h2 ⊢; omega
      · refine ⟨⟨i, k, hik, hk, h, rfl⟩, bef_iff.2 (.inr ⟨rfl, ?_⟩)⟩
        simp only; omega
theorem flat_len {α β : Type} (g : α → List β) (c : Nat) : ∀ (l : List α), (∀ x ∈ l, (g x).length ≤ c) → (l.flatMap g).length ≤ l.length * c
  | [], _ => by simp
  | x :: l, h => by
    have h1 := h x (by simp)
    have h2 := flat_len g c l fun y hy => h y (List.mem_cons_of_mem _ hy)
    rw [List.flatMap_cons, List.length_append, List.length_cons, Nat.add_mul, Nat.one_mul]; omega
theorem canon_len (n : Nat) (f : Nat → Nat → Bool) : (canon n f).length ≤ n * n := by
  have := flat_len (fun (i : Nat) => ((List.range n).filter fun (k : Nat) => decide (i < k) && f i k).map fun (k : Nat) => ((i : Int), (k : Int))) n (List.range n) (fun x _ => by
    rw [List.length_map]
    exact Nat.le_trans (List.length_filter_le _ _) (by simp))
  rw [List.length_range] at this
  exact this
theorem upto_len (n : Nat) (f : Nat → Nat → Bool) (i k : Nat) : (upto n f i k).length ≤ n * n := Nat.le_trans (List.length_filter_le _ _) (canon_len n f)
end Go.Proofs.YtjjjohmppehejaaGreat.PlainG
