/- Appending a string's bytes to a list of bytes of the call's own. -/
import Derived.Test.YtjjjnpolhbbepaaDoorBig
import Derived.Lib.AppendStr
import Derived.Deep.RegionLaw
set_option linter.unusedSimpArgs false
set_option linter.unusedVariables false
namespace Go.Proofs.YtjjjnpolhbbepaaDoor
open Go.RowKit
open Plain
theorem strCells_byts (s : ByteArray) : Lib.strCells s = byts (bytesOf s) := by
  unfold Lib.strCells byts bytesOf
  rw [List.map_map]
  rfl
theorem run_app_str {P : Program} {w : World} (B : Nat) (t u ty e : TypeId) (i : TypeInfo) (ht : P.underlying t = some (.slice e)) (hu : P.underlying u = some .string) (hi : P.info? e = some i) (hz : i.zero = some (.int .u8 0))
    (hsize : i.size = 1) (hby : i.bytes = 1) (g n cap : Nat) (xs : List Value) (hown : w.ownsRow B e 1 (.slice (some ⟨g, 0, none⟩) n cap) n xs) (s : ByteArray) (hl : n + s.size < 1000000000000) (hB : B ≤ w.heap.size) :
    ∃ G cap' w', (Builtin.append_ #[t, u] ty #[.slice (some ⟨g, 0, none⟩) n cap, .string s]).run P w = .ok (.slice (some ⟨G, 0, none⟩) (n + s.size) cap') w' ∧
      w'.ownsRow B e 1 (.slice (some ⟨G, 0, none⟩) (n + s.size) cap') (n + s.size) (xs ++ Lib.strCells s) ∧ w.grownBy w' (some g) ∧ (G = g ∨ w.heap.size ≤ G) := by
  obtain ⟨v', w', hr, h2, h3, _⟩ := Lib.run_append_own_string (P := P) w B t u ty e i ht hu hi hz hsize hby _ n xs hown s (by unfold maxLen; omega) (by omega) hB
  have hxl : xs.length = n := by simpa using hown.1
  rcases hown.2 with ⟨h, _⟩ | ⟨g', cap', cur, h, hbg, hg, hnc, hcm, hcs, htake⟩
  · cases h
  · cases h
    by_cases hroom : n + s.size ≤ cap
    · have hcs' : cur.size = cap := by simpa using hcs
      have hr2 := Lib.run_append_room_string (P := P) w t u ty e i ht hu hi hsize g n cap cur hg s hroom (by omega)
      rw [hr] at hr2
      injection hr2 with e1 e2
      subst e1
      exact ⟨g, cap, w', hr, h2, h3, .inl rfl⟩
    · have holds : ∀ j u, xs[j]? = some u → w.cell? ((⟨g, 0, none⟩ : Addr).add j) = some u := hown.cells (g := g) rfl
      have hr2 := Lib.run_append_grow_string (P := P) w t u ty e i (.int .u8 0) ht hu hi hz ⟨g, 0, none⟩ n cap xs (by rw [hsize]; simpa using hxl) holds s (by omega) (by omega) (by rw [hby]; exact growslice_fits (by omega) (by omega))
      rw [hr] at hr2
      injection hr2 with e1 e2
      subst e1
      exact ⟨w.heap.size, _, w', hr, h2, h3, .inr (Nat.le_refl _)⟩
theorem step_app_str {P : Program} {w : World} {ops : Array Oper} {o : Oper} {a : Act} {K : Act → World → Prop} {Q : Exit → Act → World → Prop} {E : Prop} (hgd : o.guard = none) (s x : Operand) (t u : TypeId)
    (ho : o.op = .call { callee := .builtin .append, args := #[s, x], argTypes := #[t, u] })
    (B : Nat) (e : TypeId) (i : TypeInfo) (ht : P.underlying t = some (.slice e)) (hu : P.underlying u = some .string) (hi : P.info? e = some i) (hz : i.zero = some (.int .u8 0)) (hsize : i.size = 1) (hby : i.bytes = 1)
    (g n cap : Nat) (xs : List Value) (hs : a.eval s = .slice (some ⟨g, 0, none⟩) n cap) (hown : w.ownsRow B e 1 (.slice (some ⟨g, 0, none⟩) n cap) n xs) (str : ByteArray) (hx : a.eval x = .string str) (hl : n + str.size < 1000000000000) (hB : B ≤ w.heap.size)
    (h : ∀ G cap' w', w'.ownsRow B e 1 (.slice (some ⟨G, 0, none⟩) (n + str.size) cap') (n + str.size) (xs ++ Lib.strCells str) → w.grownBy w' (some g) → (G = g ∨ w.heap.size ≤ G) → K (a.put o.dst (.slice (some ⟨G, 0, none⟩) (n + str.size) cap')) w') :
    if Region.wanted o (yielded ops a.tmps) = true then Oper.wp P o a w K Q else E := by
  have hw : Region.wanted o (yielded ops a.tmps) = true := by simp [Region.wanted, hgd]
  rw [if_pos hw]
  obtain ⟨G, cap', w', hr, h2, h3, h4⟩ := run_app_str (P := P) (w := w) B t u o.type e i ht hu hi hz hsize hby g n cap xs hown str hl hB
  unfold Oper.wp execOp
  simp only [ho, resolve, invoke, builtin, Sem.run_bind, Sem.run_pure, Result.andThen_ok, List.map_toArray, List.map_cons, List.map_nil, hs, hx, hr]
  exact h G cap' w' h2 h3 h4
theorem Wr.form {w : World} {B p : Nat} {v : Value} {xs : List Nat} (h : Wr w B p v xs) (hx : 0 < xs.length) : ∃ g cap, v = .slice (some ⟨g, 0, none⟩) xs.length cap ∧ g ≠ p ∧ xs.length ≤ cap := by
  obtain ⟨g, cap, hv, _, _, hc, _⟩ := h.own.form (by rw [byts_len]; exact hx)
  rw [byts_len] at hv hc
  exact ⟨g, cap, hv, fun e => h.ne (by rw [hv, e]; rfl), hc⟩
theorem Wr.strung {w w1 : World} {B p g G cap cap' n : Nat} {xs : List Nat} {s : ByteArray} (h : Wr w B p (.slice (some ⟨g, 0, none⟩) n cap) xs) (ho : w1.ownsRow B 5 1 (.slice (some ⟨G, 0, none⟩) (n + s.size) cap') (n + s.size) (byts xs ++ Lib.strCells s))
    (hg : w.grownBy w1 (some g)) (hn : G = g ∨ w.heap.size ≤ G) : WrTo w (w1.setCell ⟨p, 0, none⟩ (.slice (some ⟨G, 0, none⟩) (n + s.size) cap')) B p (.slice (some ⟨g, 0, none⟩) n cap) (xs ++ bytesOf s) := by
  refine h.stored (v' := .slice (some ⟨G, 0, none⟩) (n + s.size) cap') ?_ hg ?_
  · have hl : n = xs.length := by have := h.own.lit; rw [byts_len] at this; exact this
    unfold Own
    rw [byts_app, ← strCells_byts]
    have hs : (byts xs ++ Lib.strCells s).length = n + s.size := by
      rw [List.length_append, byts_len, Lib.strCells_length, hl]
    rw [hs]
    exact ho
  · rcases hn with e | e
    · exact .inl (by rw [e]; rfl)
    · exact .inr ⟨G, rfl, e⟩
end Go.Proofs.YtjjjnpolhbbepaaDoor
