/- The law's table of distances: an array of ten times ten numbers. -/
import Derived.Test.YtifkieopaoooeaaGreatDoorKitI
import Derived.Test.YtifkieopaoooeaaGreatDoorDrawn
import Derived.Test.YtifkieopaoooeaaGreatDoorLawCalls
set_option linter.unusedSimpArgs false
set_option linter.unusedVariables false
namespace Go.Proofs.YtifkieopaoooeaaGreatDoor
open Go.RowKit Plain PlainG
def ArrP (w : World) (D N : Nat) (es : List E2) (i k : Nat) : Prop := ∀ a b, a < 10 → b < 10 → ∃ x : Int, w.cell? ⟨D, a * 10 + b, none⟩ = some (.int .i64 x) ∧ w.frozen? ⟨D, a * 10 + b, none⟩ = false ∧ (a < N → b < N → (a < i ∨ a = i ∧ b < k) → x = lev N (adj es) a N b)
theorem ArrP.below {w w' : World} {D N i k : Nat} {es : List E2} (h : ArrP w D N es i k) (hb : Below w.heap.size w w') : ArrP w' D N es i k := fun a b ha hb' => by
  obtain ⟨x, h1, h2, h3⟩ := h a b ha hb'
  have hk := hb.block D (block_lt_of_cell h1)
  exact ⟨x, (hb.cell (p := ⟨D, a * 10 + b, none⟩) (block_lt_of_cell h1)).trans h1, by rw [← h2]; simp [World.frozen?, hk], h3⟩
theorem ArrP.row {w : World} {D N i : Nat} {es : List E2} (h : ArrP w D N es i N) : ArrP w D N es (i + 1) 0 := fun a b ha hb => by
  obtain ⟨x, h1, h2, h3⟩ := h a b ha hb
  exact ⟨x, h1, h2, fun haN hbN hc => h3 haN hbN (by omega)⟩
theorem ArrP.put {w : World} {D N i k : Nat} {es : List E2} (h : ArrP w D N es i k) (hi : i < 10) (hk : k < 10) : ArrP (w.setCell ⟨D, i * 10 + k, none⟩ (.int .i64 (lev N (adj es) i N k))) D N es i (k + 1) := fun a b ha hb => by
  obtain ⟨x, h1, h2, h3⟩ := h a b ha hb
  by_cases e : a = i ∧ b = k
  · obtain ⟨rfl, rfl⟩ := e
    exact ⟨_, cell_set_same h1, (World.frozen?_setCell _ _ _ _).trans h2, fun _ _ _ => rfl⟩
  · refine ⟨x, (cell_set_other (by intro e2; injection e2 with _ e3 _; omega)).trans h1, (World.frozen?_setCell _ _ _ _).trans h2, fun haN hbN hc => h3 haN hbN (by omega)⟩
theorem ArrP.at_ {w : World} {D N : Nat} {es : List E2} (h : ArrP w D N es N 0) {a b : Nat} (ha : a < N) (hb : b < N) (hN : N ≤ 10) : w.cell? ⟨D, a * 10 + b, none⟩ = some (.int .i64 (lev N (adj es) a N b)) := by
  obtain ⟨x, h1, h2, h3⟩ := h a b (by omega) (by omega)
  rw [h1, h3 ha hb (.inl ha)]
theorem ArrP.new (w : World) (N : Nat) (es : List E2) : ArrP (w.alloc (.cells (madeCells #[.int .i64 0] 100) 47)) w.heap.size N es 0 0 := fun a b ha hb => by
  have hh := heap_new w (.cells (madeCells #[Value.int .i64 0] 100) 47)
  refine ⟨0, ?_, ?_, fun _ _ hc => by omega⟩
  · unfold World.cell?; rw [hh]
    have hl : a * 10 + b < 100 := by omega
    have := congrArg (fun l => l[a * 10 + b]?) (toList_madeCells_one (Value.int .i64 0) 100)
    simp only [List.getElem?_replicate, hl, if_true, Array.getElem?_toList] at this
    exact this
  · exact World.frozen?_alloc_new w _ _ _
/-- How many points lie in the first cells. -/
def cntL (l : List (List Int)) (i : Nat) : Nat := (l.take i).flatten.length
theorem cntL_succ {l : List (List Int)} {i : Nat} (h : i < l.length) : cntL l (i + 1) = cntL l i + (l[i]?.getD []).length := by
  unfold cntL; rw [take_flatten h, List.length_append]
theorem cntL_all {l : List (List Int)} {i : Nat} (h : l.length ≤ i) : cntL l i = l.flatten.length := by
  unfold cntL; rw [List.take_of_length_le h]
theorem cntL_le {l : List (List Int)} {i : Nat} : cntL l i ≤ l.flatten.length := by
  unfold cntL
  have h := congrArg (fun l : List (List Int) => l.flatten.length) (List.take_append_drop i l)
  simp only [List.flatten_append, List.length_append] at h
  omega
theorem distA_ok {g : Gr} {N i k : Nat} (hg : chkGr g = 0) (hn : g.n = N) (hi : i < N) (hk : k < N) : distA g i k = (lev N (adj g.es) i N k, 0) := by
  unfold distA
  have hw : withA g [(i : Int), (k : Int)] = 0 := by
    unfold withA badW vert
    rw [if_neg (by simpa using hg), if_neg]
    simp [hn]
    omega
  rw [hw]; simp [hn]
theorem hasA_ok {g : Gr} {N i k : Nat} (hg : chkGr g = 0) (hn : g.n = N) (hi : i < N) (hk : k < N) : hasA g i k = (adj g.es i k, 0) := by
  unfold hasA
  have hw : withA g [(i : Int), (k : Int)] = 0 := by
    unfold withA badW vert
    rw [if_neg (by simpa using hg), if_neg]
    simp [hn]
    omega
  rw [hw]; simp
end Go.Proofs.YtifkieopaoooeaaGreatDoor
