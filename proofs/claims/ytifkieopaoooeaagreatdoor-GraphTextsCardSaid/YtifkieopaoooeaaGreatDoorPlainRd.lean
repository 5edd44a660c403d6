/- The reference's reading, with one state that goes on or has failed: plain. -/
import Derived.Test.YtifkieopaoooeaaGreatDoorPlainG
set_option linter.unusedSimpArgs false
set_option linter.unusedVariables false
namespace Go.Proofs.YtifkieopaoooeaaGreatDoor.PlainG
abbrev St := Except Flt Nat
/-- What a reading does: nothing once something has failed. -/
def nxt (s : St) (f : Nat → St) : St := match s with | .ok a => f a | .error e => .error e
def numS (b : List Nat) (top : Int) (a : Nat) : St := match num b a top with | .ok x => .ok x.2 | .error e => .error e
def failS (c : Bool) (f : Flt) (s : St) : St := if c = true then nxt s (fun _ => .error f) else s
/-- The value of a number that was read. -/
def IsNum (b : List Nat) (top : Int) (s : St) (v : Nat) : Prop := ∀ a x, s = .ok a → num b a top = .ok x → v = x.1
theorem nxt_err (e : Flt) (f : Nat → St) : nxt (.error e) f = .error e := rfl
theorem nxt_ok (a : Nat) (f : Nat → St) : nxt (.ok a) f = f a := rfl
theorem failS_err (c : Bool) (f e : Flt) : failS c f (.error e) = .error e := by unfold failS; split <;> rfl
theorem sgn_code {b : List Nat} {a c : Nat} {f : Flt} (h : sgn b a c = .error f) : f = (11, a) := by
  unfold sgn at h; split at h <;> cases h; rfl
theorem sgn_pos {b : List Nat} {a c a2 : Nat} (h : sgn b a c = .ok a2) : a2 = a + 1 ∧ a < b.length := by
  unfold sgn at h
  split at h
  · rename_i hh; cases h; exact ⟨rfl, hh.1⟩
  · cases h
theorem num_code {b : List Nat} {a : Nat} {top : Int} {f : Flt} (h : num b a top = .error f) : f.1 ≠ 0 := by
  unfold num at h
  split at h
  · cases h; simp
  · split at h
    · cases h; simp
    · split at h
      · cases h; simp
      · cases h
/-- An edge, read with one state. -/
theorem edge_state {b : List Nat} {N a0 : Nat} {last : Option (Int × Int)} {v1 v2 : Nat}
    (h1 : IsNum b ((N : Int) - 1) (.ok a0) v1) (h2 : IsNum b ((N : Int) - 1) (nxt (numS b ((N : Int) - 1) a0) (fun a => sgn b a 45)) v2) :
    failS (last.any fun l => !bef l ((v1 : Int), (v2 : Int))) (9, a0) (failS (decide (v2 ≤ v1)) (3, a0) (nxt (nxt (numS b ((N : Int) - 1) a0) (fun a => sgn b a 45)) (numS b ((N : Int) - 1)))) =
      (match edgeP b N a0 last with | .ok x => .ok x.2 | .error e => .error e) ∧
    (∀ x a, edgeP b N a0 last = .ok (x, a) → x = ((v1 : Int), (v2 : Int))) := by
  unfold edgeP
  cases e1 : num b a0 ((N : Int) - 1) with
  | error f =>
    have hs : numS b ((N : Int) - 1) a0 = .error f := by unfold numS; rw [e1]
    rw [hs, nxt_err, nxt_err, failS_err, failS_err]
    exact ⟨rfl, fun x a h => by cases h⟩
  | ok x1 =>
    obtain ⟨i, a1⟩ := x1
    have hv1 := h1 _ _ rfl e1
    simp only at hv1
    subst hv1
    have hs : numS b ((N : Int) - 1) a0 = .ok a1 := by unfold numS; rw [e1]
    rw [hs, nxt_ok] at h2 ⊢
    cases e2 : sgn b a1 45 with
    | error f =>
      simp only
      rw [nxt_err, failS_err, failS_err]
      exact ⟨by first | rfl | simp [e2], fun x a h => by first | (cases h) | (simp [e2] at h)⟩
    | ok a2 =>
      rw [e2] at h2
      rw [nxt_ok]
      simp only [e2]
      cases e3 : num b a2 ((N : Int) - 1) with
      | error f =>
        have hs3 : numS b ((N : Int) - 1) a2 = .error f := by unfold numS; rw [e3]
        rw [hs3, failS_err, failS_err]
        exact ⟨by first | rfl | simp [e3], fun x a h => by first | (cases h) | (simp [e3] at h)⟩
      | ok x3 =>
        obtain ⟨k, a3⟩ := x3
        have hv2 := h2 _ _ rfl e3
        simp only at hv2
        subst hv2
        have hs3 : numS b ((N : Int) - 1) a2 = .ok a3 := by unfold numS; rw [e3]
        rw [hs3]
        simp only [e3]
        by_cases hc : v2 ≤ v1
        · have hf : failS (decide (v2 ≤ v1)) (3, a0) (.ok a3) = .error (3, a0) := by unfold failS; rw [if_pos (by simpa using hc)]; rfl
          rw [hf, failS_err, if_pos hc]
          exact ⟨rfl, fun x a h => by cases h⟩
        · have hf : failS (decide (v2 ≤ v1)) (3, a0) (.ok a3) = .ok a3 := by unfold failS; rw [if_neg (by simpa using hc)]
          rw [hf, if_neg hc]
          cases hl : (last.any fun l => !bef l ((v1 : Int), (v2 : Int)))
          · exact ⟨rfl, fun x a h => by simp at h; exact h.1.symm⟩
          · exact ⟨rfl, fun x a h => by simp at h⟩
/-- The colours, read with one state: the state behind k of them. -/
def colS (b : List Nat) : Nat → St → St
  | 0, s => s
  | f + 1, s => colS b f (nxt (nxt s (fun a => sgn b a 32)) (numS b 99))
theorem colS_succ (b : List Nat) : ∀ (k : Nat) (s : St), colS b (k + 1) s = nxt (nxt (colS b k s) (fun a => sgn b a 32)) (numS b 99)
  | 0, s => rfl
  | k + 1, s => by rw [colS, colS_succ b k]; rfl
theorem colS_err (b : List Nat) (e : Flt) : ∀ k, colS b k (.error e) = .error e
  | 0 => rfl
  | k + 1 => by rw [colS, nxt_err, nxt_err, colS_err b e k]
/-- Whether cs are the first k colours. -/
def IsCols (b : List Nat) (s : St) (cs : List Int) : Prop := ∀ k, k < cs.length → ∃ v : Nat, cs[k]? = some (v : Int) ∧ IsNum b 99 (nxt (colS b k s) (fun a => sgn b a 32)) v
theorem colsP_state {b : List Nat} : ∀ (N a : Nat) (cs : List Int), cs.length = N → IsCols b (.ok a) cs →
    colS b N (.ok a) = (match colsP b N a with | .ok x => .ok x.2 | .error e => .error e) ∧ ∀ ds a2, colsP b N a = .ok (ds, a2) → ds = cs
  | 0, a, cs, hl, _ => by
    obtain rfl := List.eq_nil_of_length_eq_zero hl
    exact ⟨rfl, fun ds a2 h => by simp [colsP] at h; exact h.1⟩
  | N + 1, a, cs, hl, hc => by
    obtain ⟨c, r, rfl⟩ : ∃ c r, cs = c :: r := by cases cs with | nil => simp at hl | cons c r => exact ⟨c, r, rfl⟩
    simp only [List.length_cons] at hl
    obtain ⟨v, hv, hn⟩ := hc 0 (by simp)
    simp only [List.getElem?_cons_zero, Option.some.injEq] at hv
    subst hv
    rw [colS, colsP, nxt_ok]
    have hn : IsNum b 99 (sgn b a 32) v := hn
    cases e1 : sgn b a 32 with
    | error f =>
      rw [nxt_err, colS_err]
      exact ⟨rfl, fun ds a2 h => by simp at h⟩
    | ok a1 =>
      rw [nxt_ok]
      cases e2 : num b a1 99 with
      | error f =>
        have hs : numS b 99 a1 = .error f := by unfold numS; rw [e2]
        rw [hs, colS_err]
        exact ⟨by simp [e2], fun ds a2 h => by simp [e2] at h⟩
      | ok x =>
        obtain ⟨n, a2⟩ := x
        have hs : numS b 99 a1 = .ok a2 := by unfold numS; rw [e2]
        have hvn := hn _ _ e1 e2
        simp only at hvn
        subst hvn
        have ih := colsP_state N a2 r (by omega) (fun k hk => by
          obtain ⟨v', hv', hn'⟩ := hc (k + 1) (by simp; omega)
          refine ⟨v', by simpa using hv', ?_⟩
          rw [colS, nxt_ok, e1, nxt_ok, hs] at hn'
          exact hn')
        rw [hs]
        simp only [e2]
        refine ⟨?_, ?_⟩
        · rw [ih.1]
          cases e3 : colsP b N a2 with
          | error f => rfl
          | ok y => rfl
        · intro ds a3 h
          cases e3 : colsP b N a2 with
          | error f => rw [e3] at h; simp at h
          | ok y =>
            rw [e3] at h
            obtain ⟨y1, y2⟩ := y
            simp at h
            have := ih.2 y1 y2 e3
            rw [← h.1, this]
end Go.Proofs.YtifkieopaoooeaaGreatDoor.PlainG
