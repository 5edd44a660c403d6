/- What the check of a chain answers, whatever the chain holds. -/
import Derived.Test.YtbejhkojdiadaaaGreatCheckX
set_option linter.unusedSimpArgs false
set_option linter.unusedVariables false
namespace Go.Proofs.YtbejhkojdiadaaaGreat
open Go.RowKit PlainPm
/-- The answer of the check. -/
def ChkR (d : Int) (os : List (List Int)) (rs : List (List (List Int))) (E : Int) : Prop :=
  ((d < 1 ∨ 64 < d) ∧ E = 2) ∨ (1 ≤ d ∧ d ≤ 64 ∧ ((E = 3 ∧ ¬ Valid d.toNat os rs) ∨ (E = 0 ∧ Valid d.toNat os rs)))
theorem ChkR.uniq {d : Int} {os : List (List Int)} {rs : List (List (List Int))} {E E' : Int} (h : ChkR d os rs E) (h' : ChkR d os rs E') : E = E' := by
  rcases h with ⟨h1, rfl⟩ | ⟨h1, h2, ⟨rfl, h3⟩ | ⟨rfl, h3⟩⟩ <;> rcases h' with ⟨k1, rfl⟩ | ⟨k1, k2, ⟨rfl, k3⟩ | ⟨rfl, k3⟩⟩ <;> first | rfl | omega | exact absurd h3 k3 | exact absurd k3 h3
theorem Valid.len {n : Nat} {os : List (List Int)} {rs : List (List (List Int))} (h : Valid n os rs) : os.length = n ∧ rs.length = n := by
  obtain ⟨L, T, _, _, rfl, rfl⟩ := h
  simp [orbI, repI]
set_option maxRecDepth 100000 in
set_option maxHeartbeats 1000000 in
theorem check54 {w : World} {v : Value} {d : Int} {os : List (List Int)} {rs : List (List (List Int))} (h : ChV w v d os rs) :
    Calls Tryz.prog 54 #[v] w fun e w' => (∃ E : Int, e = .returned (.int .i64 E) ∧ ChkR d os rs E) ∧ Below w.heap.size w w' := by
  obtain ⟨a, c, b, e, rfl, h1, h2⟩ := h
  obtain ⟨lo, hlo⟩ : ∃ l, os.length = l := ⟨_, rfl⟩
  obtain ⟨lr, hlr⟩ : ∃ l, rs.length = l := ⟨_, rfl⟩
  by_cases hd1 : d < 1
  · rw [hlo, hlr]
    clear h1 h2 hlo hlr
    have hdd : decide (d < 1) = true := by simp [hd1]
    go_enter Tryz.func54, Tryz.ntmps54
    go_wp2_with fail
    refine bodyPost_ret (v := .int .i64 2) (by simp [results, Tryz.results54, go_sem]) rfl ?_
    exact ⟨⟨2, rfl, .inl ⟨.inl hd1, rfl⟩⟩, alloc_b (alloc_b (alloc_b (Below.refl _ _) _) _) _⟩
  by_cases hd2 : 64 < d
  · rw [hlo, hlr]
    clear h1 h2 hlo hlr
    have hd3 := Lib.hid hd2
    have hdd : decide (d < 1) = false := by simp; omega
    have hd4 : decide (64 < d) = true := by simp [hd2]
    clear hd1 hd2
    go_enter Tryz.func54, Tryz.ntmps54
    go_wp2_with fail
    refine bodyPost_ret (v := .int .i64 2) (by simp [results, Tryz.results54, go_sem]) rfl ?_
    exact ⟨⟨2, rfl, .inl ⟨.inr hd3.out, rfl⟩⟩, alloc_b (alloc_b (alloc_b (Below.refl _ _) _) _) _⟩
  obtain ⟨n, rfl⟩ : ∃ n : Nat, d = n := ⟨d.toNat, by omega⟩
  by_cases hn : lo = n ∧ lr = n
  · obtain ⟨rfl, rfl⟩ := hn
    have := chk_loop (c := c) (e := e) h1 h2 hlo hlr (by omega) (by omega)
    rw [hlo, hlr]
    refine this.mono ?_
    rintro e1 w1 ⟨⟨E, rfl, hE⟩, hb⟩
    exact ⟨⟨E, rfl, .inr ⟨by omega, by omega, by simpa using hE⟩⟩, hb⟩
  · have hres : ChkR (n : Int) os rs 3 := .inr ⟨by omega, by omega, .inl ⟨rfl, fun hv => by
      obtain ⟨e1, e2⟩ := hv.len
      simp at e1 e2
      exact hn ⟨by omega, by omega⟩⟩⟩
    have HR := Lib.hid hres
    rw [hlo, hlr]
    have hd3 : decide ((n : Int) < 1) = false := by simp; omega
    have hd4 : decide ((64 : Int) < n) = false := by simp; omega
    clear hres h1 h2 hlo hlr hd1 hd2
    by_cases h1 : lo = n
    · have g1 : ((lo : Int) != (n : Int)) = false := by simp [h1]
      have g2 : ((lr : Int) != (n : Int)) = true := by simp; omega
      clear hn h1
      go_enter Tryz.func54, Tryz.ntmps54
      go_wp2_with fail
      refine bodyPost_ret (v := .int .i64 3) (by simp [results, Tryz.results54, go_sem]) rfl ?_
      exact ⟨⟨3, rfl, HR.out⟩, alloc_b (alloc_b (alloc_b (Below.refl _ _) _) _) _⟩
    · have g1 : ((lo : Int) != (n : Int)) = true := by simp; omega
      clear hn h1
      go_enter Tryz.func54, Tryz.ntmps54
      go_wp2_with fail
      refine bodyPost_ret (v := .int .i64 3) (by simp [results, Tryz.results54, go_sem]) rfl ?_
      exact ⟨⟨3, rfl, HR.out⟩, alloc_b (alloc_b (alloc_b (Below.refl _ _) _) _) _⟩
end Go.Proofs.YtbejhkojdiadaaaGreat
