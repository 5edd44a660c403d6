/- A tower of stabilisers in memory. -/
import Derived.Test.YtbejhkojdiadaaaGreatChainMem
set_option linter.unusedSimpArgs false
set_option linter.unusedVariables false
namespace Go.Proofs.YtbejhkojdiadaaaGreat
open Go.RowKit PlainPm
/-- A step: only blocks of M have changed, and what may be written now is of M or new. -/
structure Stp (w : World) (M : List Nat) (w' : World) (M' : List Nat) : Prop where
  kept : Kept w w' M
  new : ∀ m ∈ M', m ∈ M ∨ w.heap.size ≤ m
theorem Stp.refl (w : World) (M : List Nat) : Stp w M w M := ⟨Kept.refl _ _, fun m h => .inl h⟩
theorem Stp.trans {a b c : World} {M M' M'' : List Nat} (h : Stp a M b M') (k : Stp b M' c M'') : Stp a M c M'' :=
  ⟨h.kept.transW k.kept h.new, fun m hm => by
    rcases k.new m hm with e | e
    · exact h.new m e
    · have := h.kept.size; exact .inr (by omega)⟩
theorem Stp.below {w w' : World} {M : List Nat} (h : Below w.heap.size w w') : Stp w M w' M := ⟨Kept.ofBelow h, fun m h => .inl h⟩
section
variable {n : Nat} {w w' : World} {M M' : List Nat} {v : Value} {x : Pm n}
theorem PmV.stp (h : PmV w M v x) (k : Stp w M w' M') : PmV w' M' v x := by
  obtain ⟨b, o, c, rfl, h1, h2, h3⟩ := h.kept k.kept
  refine ⟨b, o, c, rfl, fun hm => ?_, h2, h3⟩
  obtain ⟨b', o', c', e, _, h4, _⟩ := h
  cases e
  rcases k.new _ hm with e | e
  · exact h1 e
  · omega
def PmL (w : World) (M : List Nat) (gs : List Value) (l : List (Pm n)) : Prop := gs.length = l.length ∧ ∀ (k : Nat) (s : Pm n), l[k]? = some s → ∃ v, gs[k]? = some v ∧ PmV w M v s
theorem PmL.stp {gs : List Value} {l : List (Pm n)} (h : PmL w M gs l) (k : Stp w M w' M') : PmL w' M' gs l :=
  ⟨h.1, fun i s hs => by
    obtain ⟨v, h1, h2⟩ := h.2 i s hs
    exact ⟨v, h1, h2.stp k⟩⟩
theorem PmL.snoc {gs : List Value} {l : List (Pm n)} (h : PmL w M gs l) (hv : PmV w M v x) : PmL w M (gs ++ [v]) (l ++ [x]) := by
  refine ⟨by simp [h.1], fun i s hs => ?_⟩
  by_cases hi : i < l.length
  · rw [List.getElem?_append_left hi] at hs
    rw [List.getElem?_append_left (by rw [h.1]; exact hi)]
    exact h.2 i s hs
  · rw [List.getElem?_append_right (by omega)] at hs
    rw [List.getElem?_append_right (by rw [h.1]; omega), h.1]
    cases hk : i - l.length with
    | zero => rw [hk] at hs; simp at hs ⊢; subst hs; exact hv
    | succ j => rw [hk] at hs; simp at hs
def OptV (w : World) (M : List Nat) (v : Value) : Option (Pm n) → Prop
  | none => v = .slice none 0 0
  | some y => PmV w M v y
theorem OptV.stp {o : Option (Pm n)} (h : OptV w M v o) (k : Stp w M w' M') : OptV w' M' v o := by
  cases o with
  | none => exact h
  | some y => exact PmV.stp h k
/-- What a level's cell speaks of. -/
def fld (l : Lv n) (c : Nat) : List (Pm n) × List Nat × Option (Pm n) × Nat :=
  if c = 0 then (l.gens, [], none, 0) else if c = 1 then ([], l.orb, none, 0) else if c < 66 then ([], [], l.to (c - 2), 0) else if c < 130 then ([], [], l.to (c - 66), 0) else ([], [], none, l.tried (c - 130))
def CellOk (w : World) (B : Nat) (M : List Nat) (c : Nat) (f : List (Pm n) × List Nat × Option (Pm n) × Nat) (v : Value) : Prop :=
  if c = 0 then ∃ gs, Own w B v 27 gs ∧ PmL w M gs f.1 else if c = 1 then Own w B v 3 (ints (nts f.2.1)) else if c < 66 then OptV w M v f.2.2.1 else if c < 130 then OptV w M v (f.2.2.1.map Pm.inv) else v = .int .i64 (f.2.2.2 : Int)
theorem CellOk.stp {B c : Nat} {f : List (Pm n) × List Nat × Option (Pm n) × Nat} (h : CellOk w B M c f v) (k : Stp w M w' M') (hb : c < 2 → ∀ g, v.ownBlock = some g → w'.heap[g]? = w.heap[g]?) : CellOk w' B M' c f v := by
  unfold CellOk at h ⊢
  by_cases c0 : c = 0
  · rw [if_pos c0] at h ⊢
    obtain ⟨gs, h1, h2⟩ := h
    exact ⟨gs, ownsRow_block h1 (hb (by omega)), h2.stp k⟩
  rw [if_neg c0] at h ⊢
  by_cases c1 : c = 1
  · rw [if_pos c1] at h ⊢
    exact ownsRow_block h (hb (by omega))
  rw [if_neg c1] at h ⊢
  by_cases c2 : c < 66
  · rw [if_pos c2] at h ⊢
    exact OptV.stp h k
  rw [if_neg c2] at h ⊢
  by_cases c3 : c < 130
  · rw [if_pos c3] at h ⊢
    exact OptV.stp h k
  · rw [if_neg c3] at h ⊢
    exact h
/-- A tower in memory: the box at t, the levels in block G, what may be written in M, all of it from B on; F: the levels' cells. -/
structure TowW (n : Nat) (B t G : Nat) (w : World) (M : List Nat) (T : Tw n) (F : Nat → Value) : Prop where
  hn : 0 < n ∧ n ≤ 64
  tb : w.cell? ⟨t, 0, none⟩ = some (.int .i64 (n : Int))
  tl : w.cell? ⟨t, 1, none⟩ = some (.slice (some ⟨G, 0, none⟩) n n)
  tm : t ∉ M ∧ t < w.heap.size
  row : w.rowIs G 161 (n * 194) F
  gm : G ∈ M
  mb : ∀ m ∈ M, B ≤ m ∧ m < w.heap.size
  cells : ∀ i c, i < n → c < 194 → CellOk w B M c (fld (T i) c) (F (194 * i + c))
  blk : ∀ i c, i < n → c < 2 → ∀ g, (F (194 * i + c)).ownBlock = some g → g ∈ M ∧ g ≠ G
  dis : ∀ i c j d, i < n → c < 2 → j < n → d < 2 → ∀ g, (F (194 * i + c)).ownBlock = some g → (F (194 * j + d)).ownBlock = some g → i = j ∧ c = d
section
variable {B t G : Nat} {T T' : Tw n} {F F' : Nat → Value}
theorem TowW.upd (h : TowW n B t G w M T F) (k : Stp w M w' M') (hrow : w'.rowIs G 161 (n * 194) F') (hmb : ∀ m ∈ M', B ≤ m ∧ m < w'.heap.size) (hgm : G ∈ M')
    (hc : ∀ j c, j < n → c < 194 → (F' (194 * j + c) = F (194 * j + c) ∧ fld (T' j) c = fld (T j) c ∧ (c < 2 → ∀ g, (F (194 * j + c)).ownBlock = some g → w'.heap[g]? = w.heap[g]?)) ∨ CellOk w' B M' c (fld (T' j) c) (F' (194 * j + c)))
    (hblk : ∀ i c, i < n → c < 2 → ∀ g, (F' (194 * i + c)).ownBlock = some g → g ∈ M' ∧ g ≠ G)
    (hdis : ∀ i c j d, i < n → c < 2 → j < n → d < 2 → ∀ g, (F' (194 * i + c)).ownBlock = some g → (F' (194 * j + d)).ownBlock = some g → i = j ∧ c = d) :
    TowW n B t G w' M' T' F' := by
  refine ⟨h.hn, (k.kept.cell (p := ⟨t, 0, none⟩) h.tm.2 h.tm.1).trans h.tb, (k.kept.cell (p := ⟨t, 1, none⟩) h.tm.2 h.tm.1).trans h.tl, ⟨fun hm => ?_, Nat.lt_of_lt_of_le h.tm.2 k.kept.size⟩, hrow, hgm, hmb, fun i c hi hc' => ?_, hblk, hdis⟩
  · rcases k.new _ hm with e | e
    · exact h.tm.1 e
    · have := h.tm.2; omega
  · rcases hc i c hi hc' with ⟨e1, e2, e3⟩ | e
    · rw [e1, e2]; exact (h.cells i c hi hc').stp k e3
    · exact e
theorem TowW.below (h : TowW n B t G w M T F) (k : Below w.heap.size w w') : TowW n B t G w' M T F :=
  h.upd (Stp.below k) (h.row.of_block (k.block G h.row.lt)) (fun m hm => ⟨(h.mb m hm).1, Nat.lt_of_lt_of_le (h.mb m hm).2 k.size⟩) h.gm
    (fun j c hj hc => .inl ⟨rfl, rfl, fun hc2 g hg => k.block g (h.mb g (h.blk j c hj hc2 g hg).1).2⟩) h.blk h.dis
theorem TowW.to_ (h : TowW n B t G w M T F) {i p : Nat} (hi : i < n) (hp : p < 64) : OptV w M (F (194 * i + (2 + p))) ((T i).to p) := by
  have := h.cells i (2 + p) hi (by omega)
  unfold CellOk fld at this
  rw [if_neg (by omega), if_neg (by omega), if_pos (by omega), if_neg (by omega), if_neg (by omega), if_pos (by omega)] at this
  simpa using this
theorem TowW.by_ (h : TowW n B t G w M T F) {i p : Nat} (hi : i < n) (hp : p < 64) : OptV w M (F (194 * i + (66 + p))) (((T i).to p).map Pm.inv) := by
  have := h.cells i (66 + p) hi (by omega)
  unfold CellOk fld at this
  rw [if_neg (by omega), if_neg (by omega), if_neg (by omega), if_pos (by omega), if_neg (by omega), if_neg (by omega), if_neg (by omega), if_pos (by omega)] at this
  simpa using this
theorem TowW.tried_ (h : TowW n B t G w M T F) {i p : Nat} (hi : i < n) (hp : p < 64) : F (194 * i + (130 + p)) = .int .i64 ((T i).tried p : Int) := by
  have := h.cells i (130 + p) hi (by omega)
  unfold CellOk fld at this
  rw [if_neg (by omega), if_neg (by omega), if_neg (by omega), if_neg (by omega), if_neg (by omega), if_neg (by omega), if_neg (by omega), if_neg (by omega)] at this
  simpa using this
theorem TowW.gens_ (h : TowW n B t G w M T F) {i : Nat} (hi : i < n) : ∃ gs, Own w B (F (194 * i)) 27 gs ∧ PmL w M gs (T i).gens := by
  have := h.cells i 0 hi (by omega)
  unfold CellOk fld at this
  simpa using this
theorem TowW.orb_ (h : TowW n B t G w M T F) {i : Nat} (hi : i < n) : Own w B (F (194 * i + 1)) 3 (ints (nts (T i).orb)) := by
  have := h.cells i 1 hi (by omega)
  unfold CellOk fld at this
  simpa using this
theorem TowW.cell (h : TowW n B t G w M T F) {i c : Nat} (hi : i < n) (hc : c < 194) : w.cell? ⟨G, 194 * i + c, none⟩ = some (F (194 * i + c)) := h.row.cell (by omega)
theorem TowW.stored (h : TowW n B t G w M T F) (a : Nat) (u : Value) : Stp w M (w.setCell ⟨G, a, none⟩ u) M :=
  ⟨Kept.ofGrown (grown_put a u) (fun k e => by cases e; exact h.gm), fun m hm => .inl hm⟩
theorem fld_tried {l : Lv n} {q c : Nat} (hc : c < 194) (h : c ≠ 130 + q) : fld (stepTry l q) c = fld l c := by
  unfold fld stepTry
  by_cases c0 : c = 0
  · rw [if_pos c0, if_pos c0]
  rw [if_neg c0, if_neg c0]
  by_cases c1 : c = 1
  · rw [if_pos c1, if_pos c1]
  rw [if_neg c1, if_neg c1]
  by_cases c2 : c < 66
  · rw [if_pos c2, if_pos c2]
  rw [if_neg c2, if_neg c2]
  by_cases c3 : c < 130
  · rw [if_pos c3, if_pos c3]
  rw [if_neg c3, if_neg c3]
  dsimp only
  rw [if_neg (by omega)]
theorem fld_tried_at {l : Lv n} {q : Nat} : fld l (130 + q) = ([], [], none, l.tried q) := by
  unfold fld
  rw [if_neg (by omega), if_neg (by omega), if_neg (by omega), if_neg (by omega)]
  simp
/-- tried[q]++ -/
theorem TowW.setTried (h : TowW n B t G w M T F) {i q : Nat} (hi : i < n) (hq : q < 64) :
    TowW n B t G (w.setCell ⟨G, 194 * i + (130 + q), none⟩ (.int .i64 ((T i).tried q + 1 : Nat))) M (updL T i (stepTry (T i) q)) (fun k => if k = 194 * i + (130 + q) then .int .i64 ((T i).tried q + 1 : Nat) else F k) := by
  have hne : ∀ j c, c < 2 → 194 * j + c ≠ 194 * i + (130 + q) := fun j c hc => by omega
  have k := h.stored (194 * i + (130 + q)) (.int .i64 ((T i).tried q + 1 : Nat))
  refine h.upd k (h.row.set _ _) (fun m hm => ⟨(h.mb m hm).1, Nat.lt_of_lt_of_le (h.mb m hm).2 k.kept.size⟩) h.gm (fun j c hj hc => ?_) (fun j c hj hc g hg => ?_) (fun j c j' c' hj hc hj' hc' g hg hg' => ?_)
  · by_cases e : j = i ∧ c = 130 + q
    · right
      obtain ⟨rfl, rfl⟩ := e
      rw [if_pos rfl, updL_at, fld_tried_at]
      unfold CellOk stepTry
      rw [if_neg (by omega), if_neg (by omega), if_neg (by omega), if_neg (by omega)]
      simp
    · left
      have hF : 194 * j + c ≠ 194 * i + (130 + q) := by omega
      refine ⟨if_neg hF, ?_, fun hc2 g hg => ?_⟩
      · by_cases ej : j = i
        · subst ej; rw [updL_at]; exact fld_tried hc (by omega)
        · rw [updL_ne _ _ ej]
      · exact Below.heap_setCell _ _ _ _ (h.blk j c hj hc2 g hg).2
  · rw [if_neg (hne j c hc)] at hg; exact h.blk j c hj hc g hg
  · rw [if_neg (hne j c hc)] at hg; rw [if_neg (hne j' c' hc')] at hg'; exact h.dis j c j' c' hj hc hj' hc' g hg hg'
/-- A level with a new image. -/
def setTo (l : Lv n) (p : Nat) (y : Pm n) : Lv n := ⟨l.gens, l.orb, fun x => if x = p then some y else l.to x, l.tried⟩
def addOrb (l : Lv n) (p : Nat) : Lv n := ⟨l.gens, l.orb ++ [p], l.to, l.tried⟩
theorem fld_setTo {l : Lv n} {p c : Nat} {y : Pm n} (hp : p < 64) (hc : c < 194) (h1 : c ≠ 2 + p) (h2 : c ≠ 66 + p) : fld (setTo l p y) c = fld l c := by
  unfold fld setTo
  by_cases c0 : c = 0
  · rw [if_pos c0, if_pos c0]
  rw [if_neg c0, if_neg c0]
  by_cases c1 : c = 1
  · rw [if_pos c1, if_pos c1]
  rw [if_neg c1, if_neg c1]
  by_cases c2 : c < 66
  · rw [if_pos c2, if_pos c2]
    dsimp only
    rw [if_neg (by omega)]
  rw [if_neg c2, if_neg c2]
  by_cases c3 : c < 130
  · rw [if_pos c3, if_pos c3]
    dsimp only
    rw [if_neg (by omega)]
  rw [if_neg c3, if_neg c3]
theorem TowW.put2 (h : TowW n B t G w M T F) {i p : Nat} {y : Pm n} {v u : Value} (hi : i < n) (hp : p < 64) (hv : PmV w M v y) (hu : PmV w M u y.inv) :
    TowW n B t G ((w.setCell ⟨G, 194 * i + (2 + p), none⟩ v).setCell ⟨G, 194 * i + (66 + p), none⟩ u) M (updL T i (setTo (T i) p y)) (fun k => if k = 194 * i + (66 + p) then u else if k = 194 * i + (2 + p) then v else F k) ∧
    Stp w M ((w.setCell ⟨G, 194 * i + (2 + p), none⟩ v).setCell ⟨G, 194 * i + (66 + p), none⟩ u) M := by
  have k : Stp w M ((w.setCell ⟨G, 194 * i + (2 + p), none⟩ v).setCell ⟨G, 194 * i + (66 + p), none⟩ u) M :=
    ⟨(h.stored (194 * i + (2 + p)) v).kept.trans (Kept.ofGrown (grown_put _ u) (fun k e => by cases e; exact h.gm)), fun m hm => .inl hm⟩
  have hne : ∀ j c, c < 2 → 194 * j + c ≠ 194 * i + (66 + p) ∧ 194 * j + c ≠ 194 * i + (2 + p) := fun j c hc => by omega
  refine ⟨h.upd k ((h.row.set _ _).set _ _) (fun m hm => ⟨(h.mb m hm).1, Nat.lt_of_lt_of_le (h.mb m hm).2 k.kept.size⟩) h.gm (fun j c hj hc => ?_) (fun j c hj hc g hg => ?_) (fun j c j' c' hj hc hj' hc' g hg hg' => ?_), k⟩
  · by_cases e : j = i ∧ c = 66 + p
    · right
      obtain ⟨rfl, rfl⟩ := e
      rw [if_pos rfl, updL_at]
      unfold CellOk fld setTo
      rw [if_neg (by omega), if_neg (by omega), if_neg (by omega), if_pos (by omega), if_neg (by omega), if_neg (by omega), if_neg (by omega), if_pos (by omega)]
      simp only [show 66 + p - 66 = p by omega, if_pos, Option.map_some]
      exact hu.stp k
    · by_cases e2 : j = i ∧ c = 2 + p
      · right
        obtain ⟨rfl, rfl⟩ := e2
        rw [if_neg (by omega), if_pos rfl, updL_at]
        unfold CellOk fld setTo
        rw [if_neg (by omega), if_neg (by omega), if_pos (by omega), if_neg (by omega), if_neg (by omega), if_pos (by omega)]
        simp only [show 2 + p - 2 = p by omega, if_pos]
        exact hv.stp k
      · left
        refine ⟨by rw [if_neg (by omega), if_neg (by omega)], ?_, fun hc2 g hg => ?_⟩
        · by_cases ej : j = i
          · subst ej; rw [updL_at]; exact fld_setTo hp hc (by omega) (by omega)
          · rw [updL_ne _ _ ej]
        · have := (h.blk j c hj hc2 g hg).2
          rw [Below.heap_setCell _ _ _ _ this, Below.heap_setCell _ _ _ _ this]
  · rw [if_neg (hne j c hc).1, if_neg (hne j c hc).2] at hg; exact h.blk j c hj hc g hg
  · rw [if_neg (hne j c hc).1, if_neg (hne j c hc).2] at hg; rw [if_neg (hne j' c' hc').1, if_neg (hne j' c' hc').2] at hg'; exact h.dis j c j' c' hj hc hj' hc' g hg hg'
/-- A row of a level is appended to, and stored back. -/
theorem TowW.app (h : TowW n B t G w M T F) {i c0 g cap m : Nat} {l : Lv n} {w6 : World} (hB : B ≤ w.heap.size) (hi : i < n) (hc0 : c0 < 2) (hl : ∀ c, c < 194 → c ≠ c0 → fld l c = fld (T i) c)
    (hg : w.grownBy w6 (F (194 * i + c0)).ownBlock) (hnew : (F (194 * i + c0)).ownBlock = some g ∨ w.heap.size ≤ g) (hlt : g < w6.heap.size)
    (hok : ∀ w7 M7, Stp w M w7 M7 → w7.heap[g]? = w6.heap[g]? → CellOk w7 B M7 c0 (fld l c0) (.slice (some ⟨g, 0, none⟩) m cap)) :
    TowW n B t G (w6.setCell ⟨G, 194 * i + c0, none⟩ (.slice (some ⟨g, 0, none⟩) m cap)) (g :: M) (updL T i l) (fun k => if k = 194 * i + c0 then .slice (some ⟨g, 0, none⟩) m cap else F k) ∧
    Stp w M (w6.setCell ⟨G, 194 * i + c0, none⟩ (.slice (some ⟨g, 0, none⟩) m cap)) (g :: M) := by
  have hGl := h.row.lt
  have hgG : g ≠ G := by
    rcases hnew with e | e
    · exact (h.blk i c0 hi hc0 g e).2
    · omega
  have hgB : B ≤ g := by
    rcases hnew with e | e
    · exact (h.mb g (h.blk i c0 hi hc0 g e).1).1
    · omega
  have k6 : Kept w w6 M := Kept.ofGrown hg (fun b e => (h.blk i c0 hi hc0 b e).1)
  have k : Stp w M (w6.setCell ⟨G, 194 * i + c0, none⟩ (.slice (some ⟨g, 0, none⟩) m cap)) (g :: M) :=
    ⟨k6.trans (Kept.ofGrown (grown_put _ _) (fun k e => by cases e; exact h.gm)), fun b hb => by
      rcases List.mem_cons.1 hb with rfl | hb
      · rcases hnew with e | e
        · exact .inl (h.blk i c0 hi hc0 b e).1
        · exact .inr e
      · exact .inl hb⟩
  have hG6 : w6.heap[G]? = w.heap[G]? := hg.block G hGl (fun e => (h.blk i c0 hi hc0 G e.symm).2 rfl)
  have hsz : (w6.setCell ⟨G, 194 * i + c0, none⟩ (.slice (some ⟨g, 0, none⟩) m cap)).heap.size = w6.heap.size := by simp [World.setCell]
  have hF : ∀ j c, j < n → c < 2 → ¬ (j = i ∧ c = c0) → 194 * j + c ≠ 194 * i + c0 := fun j c _ hc e => by omega
  refine ⟨h.upd k ((h.row.of_block hG6).set _ _) (fun b hb => ?_) (by simp [h.gm]) (fun j c hj hc => ?_) (fun j c hj hc b hb => ?_) (fun j c j' c' hj hc hj' hc' b hb hb' => ?_), k⟩
  · rcases List.mem_cons.1 hb with rfl | hb
    · exact ⟨hgB, by rw [hsz]; exact hlt⟩
    · exact ⟨(h.mb b hb).1, Nat.lt_of_lt_of_le (h.mb b hb).2 k.kept.size⟩
  · by_cases e : j = i ∧ c = c0
    · right
      obtain ⟨rfl, rfl⟩ := e
      rw [if_pos rfl, updL_at]
      exact hok _ _ k (Below.heap_setCell _ _ _ _ hgG)
    · left
      refine ⟨if_neg (by omega), ?_, fun hc2 b hb => ?_⟩
      · by_cases ej : j = i
        · subst ej; rw [updL_at]; exact hl c hc (fun e2 => e ⟨rfl, e2⟩)
        · rw [updL_ne _ _ ej]
      · have hb2 := h.blk j c hj hc2 b hb
        rw [Below.heap_setCell _ _ _ _ hb2.2]
        exact hg.block b (h.mb b hb2.1).2 (fun e2 => e (h.dis j c i c0 hj hc2 hi hc0 b hb e2.symm))
  · by_cases e : j = i ∧ c = c0
    · obtain ⟨rfl, rfl⟩ := e
      rw [if_pos rfl] at hb
      cases hb
      exact ⟨by simp, hgG⟩
    · rw [if_neg (hF j c hj hc e)] at hb
      have := h.blk j c hj hc b hb
      exact ⟨by simp [this.1], this.2⟩
  · by_cases e : j = i ∧ c = c0
    · by_cases e' : j' = i ∧ c' = c0
      · omega
      · obtain ⟨rfl, rfl⟩ := e
        rw [if_pos rfl] at hb
        rw [if_neg (hF j' c' hj' hc' e')] at hb'
        cases hb
        rcases hnew with q | q
        · exact h.dis j c j' c' hi hc hj' hc' _ q hb'
        · exact absurd (h.mb _ (h.blk j' c' hj' hc' _ hb').1).2 (Nat.not_lt.2 q)
    · rw [if_neg (hF j c hj hc e)] at hb
      by_cases e' : j' = i ∧ c' = c0
      · obtain ⟨rfl, rfl⟩ := e'
        rw [if_pos rfl] at hb'
        cases hb'
        rcases hnew with q | q
        · exact h.dis j c j' c' hj hc hj' hc' _ hb q
        · exact absurd (h.mb _ (h.blk j c hj hc _ hb).1).2 (Nat.not_lt.2 q)
      · rw [if_neg (hF j' c' hj' hc' e')] at hb'
        exact h.dis j c j' c' hj hc hj' hc' b hb hb'
end
end
end Go.Proofs.YtbejhkojdiadaaaGreat
