/- strings.Builder, strconv.Itoa, slices.Clone and slices.Max at this program's numbers. -/
import Derived.Shelf.Strings.Builder1
import Derived.Shelf.Strconv.Itoa3
import Derived.Ground.Names2Prog
import Derived.Test.YtifkieopaoooeaaGreatDoorVerts
set_option linter.unusedSimpArgs false
set_option linter.unusedVariables false
namespace Go.Proofs
open Go.Shelf
def Tryz.lays166_ren : Go.Shelf.Ren := ⟨fun | 166 => 50 | 240 => 89 | 276 => 115 | n => n, fun | 70 => 72 | 9 => 9 | 3 => 3 | 75 => 77 | 0 => 0 | 72 => 75 | 37 => 73 | 4 => 4 | 164 => 146 | 80 => 83 | 5 => 5 | n => n, fun | n => n⟩
theorem Tryz.lays166 : Go.Proofs.Lays.n166 Tryz.prog Tryz.lays166_ren :=
  {
    mixed := by kernel_rfl,
    f166 := Tryz.func50.trans (congrArg some (by kernel_rfl)),
    f240 := Tryz.func89.trans (congrArg some (by kernel_rfl)),
    f276 := Tryz.func115.trans (congrArg some (by kernel_rfl)),
    t0 := Tryz.underlying0,
    a0 := Tryz.isAgg0,
    z0 := Tryz.sizeOf0,
    v0 := Tryz.zeroValue0,
    t3 := Tryz.underlying3,
    a3 := Tryz.isAgg3,
    z3 := Tryz.sizeOf3,
    v3 := Tryz.zeroValue3,
    t4 := Tryz.underlying4,
    a4 := Tryz.isAgg4,
    z4 := Tryz.sizeOf4,
    v4 := Tryz.zeroValue4,
    t9 := Tryz.underlying9,
    a9 := Tryz.isAgg9,
    z9 := Tryz.sizeOf9,
    v9 := Tryz.zeroValue9,
    t20 := Tryz.underlying20,
    a20 := Tryz.isAgg20,
    z20 := Tryz.sizeOf20,
    v20 := Tryz.zeroValue20,
    t37 := Tryz.underlying73,
    a37 := Tryz.isAgg73,
    z37 := Tryz.sizeOf73,
    v37 := Tryz.zeroValue73,
    t70 := Tryz.underlying72,
    a70 := Tryz.isAgg72,
    z70 := Tryz.sizeOf72,
    v70 := Tryz.zeroValue72,
    t72 := Tryz.underlying75,
    a72 := Tryz.isAgg75,
    z72 := Tryz.sizeOf75,
    v72 := Tryz.zeroValue75,
    t75 := Tryz.underlying77,
    a75 := Tryz.isAgg77,
    z75 := Tryz.sizeOf77,
    v75 := Tryz.zeroValue77,
    t164 := Tryz.underlying146,
    a164 := Tryz.isAgg146,
    z164 := Tryz.sizeOf146,
    v164 := Tryz.zeroValue146 }
def Tryz.lays169_ren : Go.Shelf.Ren := ⟨fun | 169 => 54 | n => n, fun | 70 => 72 | 9 => 9 | 0 => 0 | 72 => 75 | 37 => 73 | 127 => 120 | 3 => 3 | 5 => 5 | n => n, fun | n => n⟩
theorem Tryz.lays169 : Go.Proofs.Lays.n169 Tryz.prog Tryz.lays169_ren :=
  {
    mixed := by kernel_rfl,
    f169 := Tryz.func54.trans (congrArg some (by kernel_rfl)),
    t0 := Tryz.underlying0,
    a0 := Tryz.isAgg0,
    z0 := Tryz.sizeOf0,
    v0 := Tryz.zeroValue0,
    t3 := Tryz.underlying3,
    a3 := Tryz.isAgg3,
    z3 := Tryz.sizeOf3,
    v3 := Tryz.zeroValue3,
    t9 := Tryz.underlying9,
    a9 := Tryz.isAgg9,
    z9 := Tryz.sizeOf9,
    v9 := Tryz.zeroValue9,
    t37 := Tryz.underlying73,
    a37 := Tryz.isAgg73,
    z37 := Tryz.sizeOf73,
    v37 := Tryz.zeroValue73,
    t70 := Tryz.underlying72,
    a70 := Tryz.isAgg72,
    z70 := Tryz.sizeOf72,
    v70 := Tryz.zeroValue72,
    t72 := Tryz.underlying75,
    a72 := Tryz.isAgg75,
    z72 := Tryz.sizeOf75,
    v72 := Tryz.zeroValue75,
    t127 := Tryz.underlying120,
    a127 := Tryz.isAgg120,
    z127 := Tryz.sizeOf120,
    v127 := Tryz.zeroValue120 }
def Tryz.lays171_ren : Go.Shelf.Ren := ⟨fun | 171 => 51 | 243 => 90 | 246 => 116 | 283 => 132 | 284 => 133 | 285 => 134 | 286 => 135 | 129 => 145 | 317 => 158 | 318 => 159 | 319 => 160 | 320 => 161 | 337 => 187 | 338 => 188 | n => n, fun | 3 => 3 | 9 => 9 | 2 => 2 | 4 => 4 | 171 => 162 | 0 => 0 | 53 => 163 | 37 => 73 | 5 => 5 | 173 => 166 | 212 => 186 | 51 => 176 | 20 => 20 | 213 => 187 | 46 => 152 | 232 => 214 | 233 => 215 | n => n, fun | 17 => 0 | 18 => 1 | 19 => 2 | n => n⟩
theorem Tryz.lays171 : Go.Proofs.Lays.n171 Tryz.prog Tryz.lays171_ren :=
  {
    mixed := by kernel_rfl,
    f129 := Tryz.func145.trans (congrArg some (by kernel_rfl)),
    f171 := Tryz.func51.trans (congrArg some (by kernel_rfl)),
    f243 := Tryz.func90.trans (congrArg some (by kernel_rfl)),
    f246 := Tryz.func116.trans (congrArg some (by kernel_rfl)),
    f283 := Tryz.func132.trans (congrArg some (by kernel_rfl)),
    f284 := Tryz.func133.trans (congrArg some (by kernel_rfl)),
    f285 := Tryz.func134.trans (congrArg some (by kernel_rfl)),
    f286 := Tryz.func135.trans (congrArg some (by kernel_rfl)),
    f317 := Tryz.func158.trans (congrArg some (by kernel_rfl)),
    f318 := Tryz.func159.trans (congrArg some (by kernel_rfl)),
    f319 := Tryz.func160.trans (congrArg some (by kernel_rfl)),
    f320 := Tryz.func161.trans (congrArg some (by kernel_rfl)),
    f337 := Tryz.func187.trans (congrArg some (by kernel_rfl)),
    f338 := Tryz.func188.trans (congrArg some (by kernel_rfl)),
    t0 := Tryz.underlying0,
    a0 := Tryz.isAgg0,
    z0 := Tryz.sizeOf0,
    v0 := Tryz.zeroValue0,
    t2 := Tryz.underlying2,
    a2 := Tryz.isAgg2,
    z2 := Tryz.sizeOf2,
    v2 := Tryz.zeroValue2,
    t3 := Tryz.underlying3,
    a3 := Tryz.isAgg3,
    z3 := Tryz.sizeOf3,
    v3 := Tryz.zeroValue3,
    t4 := Tryz.underlying4,
    a4 := Tryz.isAgg4,
    z4 := Tryz.sizeOf4,
    v4 := Tryz.zeroValue4,
    t5 := Tryz.underlying5,
    a5 := Tryz.isAgg5,
    z5 := Tryz.sizeOf5,
    v5 := Tryz.zeroValue5,
    t9 := Tryz.underlying9,
    a9 := Tryz.isAgg9,
    z9 := Tryz.sizeOf9,
    v9 := Tryz.zeroValue9,
    t20 := Tryz.underlying20,
    a20 := Tryz.isAgg20,
    z20 := Tryz.sizeOf20,
    v20 := Tryz.zeroValue20,
    t37 := Tryz.underlying73,
    a37 := Tryz.isAgg73,
    z37 := Tryz.sizeOf73,
    v37 := Tryz.zeroValue73,
    t46 := Tryz.underlying152,
    a46 := Tryz.isAgg152,
    z46 := Tryz.sizeOf152,
    v46 := Tryz.zeroValue152,
    t51 := Tryz.underlying176,
    a51 := Tryz.isAgg176,
    z51 := Tryz.sizeOf176,
    v51 := Tryz.zeroValue176,
    t53 := Tryz.underlying163,
    a53 := Tryz.isAgg163,
    z53 := Tryz.sizeOf163,
    v53 := Tryz.zeroValue163,
    t171 := Tryz.underlying162,
    a171 := Tryz.isAgg162,
    z171 := Tryz.sizeOf162,
    v171 := Tryz.zeroValue162,
    t173 := Tryz.underlying166,
    a173 := Tryz.isAgg166,
    z173 := Tryz.sizeOf166,
    v173 := Tryz.zeroValue166,
    t212 := Tryz.underlying186,
    a212 := Tryz.isAgg186,
    z212 := Tryz.sizeOf186,
    v212 := Tryz.zeroValue186,
    t213 := Tryz.underlying187,
    a213 := Tryz.isAgg187,
    z213 := Tryz.sizeOf187,
    t232 := Tryz.underlying214,
    a232 := Tryz.isAgg214,
    z232 := Tryz.sizeOf214,
    v232 := Tryz.zeroValue214,
    t233 := Tryz.underlying215,
    a233 := Tryz.isAgg215,
    z233 := Tryz.sizeOf215,
    v233 := Tryz.zeroValue215,
    g17 := by kernel_rfl,
    g18 := by kernel_rfl,
    g19 := by kernel_rfl }
end Go.Proofs
namespace Go.Proofs.YtifkieopaoooeaaGreatDoor
open Go.RowKit Go.Shelf Plain PlainG
theorem bx166 : Builder.Extra Tryz.prog Tryz.lays166_ren where
  sizeBuilder := by kernel_rfl
  liesBuilder := by kernel_rfl
  t5 := Tryz.underlying5
  a5 := Tryz.isAgg5
  z5 := Tryz.sizeOf5
  v5 := Tryz.zeroValue5
  infoByte := by kernel_rfl
  cellsByte := by kernel_rfl
  sizeByte := by kernel_rfl
  neB5 := by decide
theorem bx169 : Builder.Extra Tryz.prog Tryz.lays169_ren where
  sizeBuilder := by kernel_rfl
  liesBuilder := by kernel_rfl
  t5 := Tryz.underlying5
  a5 := Tryz.isAgg5
  z5 := Tryz.sizeOf5
  v5 := Tryz.zeroValue5
  infoByte := by kernel_rfl
  cellsByte := by kernel_rfl
  sizeByte := by kernel_rfl
  neB5 := by decide
/-- A string of bytes. -/
def sb (l : List Nat) : ByteArray := ⟨(l.map UInt8.ofNat).toArray⟩
theorem sb_size (l : List Nat) : (sb l).size = l.length := by unfold sb; simp [ByteArray.size]
theorem sb_app (a b : List Nat) : sb a ++ sb b = sb (a ++ b) := by
  apply ByteArray.ext
  rw [ByteArray.data_append]
  simp [sb]
theorem sb_bytes {l : List Nat} (h : ∀ x ∈ l, x < 256) : bytesOf (sb l) = l := by
  unfold bytesOf sb
  simp only [List.map_map]
  conv => rhs; rw [← List.map_id l]
  apply List.map_congr_left
  intro x hx
  simp [Nat.mod_eq_of_lt (h x hx)]
theorem sb_inj {a b : List Nat} (ha : ∀ x ∈ a, x < 256) (hb : ∀ x ∈ b, x < 256) (h : sb a = sb b) : a = b := by rw [← sb_bytes ha, ← sb_bytes hb, h]
theorem sb_of (s : ByteArray) : sb (bytesOf s) = s := by
  apply ByteArray.ext
  unfold sb bytesOf
  simp only [List.map_map]
  have : (UInt8.ofNat ∘ UInt8.toNat) = id := by funext x; simp
  rw [this, List.map_id]
/-- A builder that holds bytes. -/
def Bld (w : World) (B b : Nat) (l : List Nat) : Prop := Lib.IsBuilder 75 5 B b (Lib.byteCells (l.map UInt8.ofNat)) w
theorem Bld.fresh (w : World) : Bld (w.alloc (.cells #[.pointer none, .slice none 0 0] 75)) w.heap.size w.heap.size [] := Lib.fresh_isBuilder 75 5 w
theorem write_calls {w : World} {B b : Nat} {l m : List Nat} (h : Bld w B b l) (hl : l.length + m.length ≤ 1000000) (hB : B ≤ w.heap.size) :
    Calls Tryz.prog 50 #[.pointer (some ⟨b, 0, none⟩), .string (sb m)] w fun e w' => e = .returned (.tuple #[.int .i64 m.length, .nilIface]) ∧ Bld w' B b (l ++ m) ∧ Below B w w' := by
  have hc := Any.Builder_WriteString Tryz.lays166 bx166 B b _ (sb m) w h (by rw [Lib.byteCells_length, List.length_map, sb_size]; omega) hB
  change Calls Tryz.prog 50 _ _ _ at hc
  refine hc.mono ?_
  rintro e w' ⟨rfl, h1, h2⟩
  refine ⟨by rw [sb_size], ?_, h2⟩
  have e1 : Lib.byteCells ((l ++ m).map UInt8.ofNat) = Lib.byteCells (l.map UInt8.ofNat) ++ Lib.strCells (sb m) := by
    rw [List.map_append, Lib.byteCells_append]; rfl
  unfold Bld
  rw [e1]
  exact .inr h1
theorem string_calls {w : World} {B b : Nat} {l : List Nat} (h : Bld w B b l) (hB : B ≤ w.heap.size) :
    Calls Tryz.prog 54 #[.pointer (some ⟨b, 0, none⟩)] w fun e w' => e = .returned (.string (sb l)) ∧ Below B w w' := by
  have hc := Any.Builder_String_any Tryz.lays169 bx169 B b _ w h hB
  change Calls Tryz.prog 54 _ _ _ at hc
  exact hc
theorem decDigits_dec : ∀ i : Nat, i < 100 → Lib.decDigits i = (dec i).map UInt8.ofNat := by
  intro i hi
  by_cases h9 : 9 < i
  · rw [Lib.decDigits, dif_neg (by omega), Lib.decDigits, dif_pos (by omega)]
    unfold dec
    rw [if_pos h9]; rfl
  · rw [Lib.decDigits, dif_pos (by omega)]
    unfold dec
    rw [if_neg h9]; rfl
theorem itoa_calls (i : Nat) (hi : i < 100) (w : World) : Calls Tryz.prog 51 #[.int .i64 (i : Int)] w fun e w' => e = .returned (.string (sb (dec i))) ∧ w' = w := by
  have hc := Any.strconv_Itoa_small Tryz.lays171 i hi w
  change Calls Tryz.prog 51 _ _ _ at hc
  rw [decDigits_dec i hi] at hc
  exact hc
def maxL : List Int → Int
  | [] => 0
  | x :: r => r.foldl max x
theorem maxL_step (zs : List Int) (k : Nat) (h0 : 0 < k) (hk : k < zs.length) : maxL (zs.take (k + 1)) = max (maxL (zs.take k)) (zs[k]?.getD 0) := by
  cases zs with
  | nil => simp at hk
  | cons x r =>
    obtain ⟨j, rfl⟩ : ∃ j, k = j + 1 := ⟨k - 1, by omega⟩
    simp only [List.take_succ_cons, maxL, List.getElem?_cons_succ]
    rw [List.take_add_one, List.foldl_append]
    have hj : j < r.length := by simpa using hk
    rw [List.getElem?_eq_getElem hj]
    simp
theorem maxL_nonneg : ∀ (r : List Int) (x : Int), x ≤ r.foldl max x
  | [], x => Int.le_refl _
  | y :: r, x => by rw [List.foldl_cons]; have := maxL_nonneg r (max x y); omega
theorem maxL_mem : ∀ (r : List Int) (x : Int), r.foldl max x = x ∨ r.foldl max x ∈ r
  | [], x => .inl rfl
  | y :: r, x => by
    rw [List.foldl_cons]
    rcases maxL_mem r (max x y) with h | h
    · rw [h]
      rcases Int.le_total x y with h2 | h2
      · right; rw [Int.max_eq_right h2]; simp
      · left; rw [Int.max_eq_left h2]
    · right; exact List.mem_cons_of_mem _ h
theorem maxL_ge : ∀ (r : List Int) (x y : Int), y ∈ r → y ≤ r.foldl max x
  | [], x, y, h => by simp at h
  | z :: r, x, y, h => by
    rw [List.foldl_cons]
    rcases List.mem_cons.1 h with e | e
    · subst e; have := maxL_nonneg r (max x y); omega
    · exact maxL_ge r _ y e
/-- The greatest of numbers that are not negative is 0 exactly if all are 0. -/
theorem maxL_zero {l : List Int} (hl : l ≠ []) (h : ∀ x ∈ l, 0 ≤ x) : maxL l = 0 ↔ l.all (· == 0) = true := by
  cases l with
  | nil => exact absurd rfl hl
  | cons x r =>
    rw [List.all_eq_true]
    show r.foldl max x = 0 ↔ _
    constructor
    · intro he y hy
      have h0 := h y hy
      have : y ≤ r.foldl max x := by
        rcases List.mem_cons.1 hy with e | e
        · subst e; exact maxL_nonneg r y
        · exact maxL_ge r x y e
      simp only [beq_iff_eq]; omega
    · intro ha
      rcases maxL_mem r x with e | e
      · rw [e]; simpa using ha x (by simp)
      · have := ha _ (List.mem_cons_of_mem _ e); simpa using this
theorem maxL_pos {l : List Int} (h : ∀ x ∈ l, 0 ≤ x) : (0 < maxL (l ++ [0])) ↔ ¬ l.all (· == 0) = true := by
  have hz := maxL_zero (l := l ++ [0]) (by simp) (fun x hx => by
    rcases List.mem_append.1 hx with e | e
    · exact h x e
    · simp at e; omega)
  have hge : 0 ≤ maxL (l ++ [0]) := by
    cases l with
    | nil => simp [maxL]
    | cons x r => exact maxL_ge _ _ _ (by simp)
  rw [List.all_append] at hz
  constructor
  · intro h1 h2
    rw [h2] at hz
    have := hz.2 (by simp)
    omega
  · intro h1
    rcases Int.lt_or_eq_of_le hge with h2 | h2
    · exact h2
    · exfalso
      have := hz.1 h2.symm
      rw [Bool.and_eq_true] at this
      exact h1 this.1
set_option maxHeartbeats 400000 in
theorem max_calls {w : World} {a : Option Addr} {zs : List Int} (c : Nat) (h : Ints w a zs) (h0 : 0 < zs.length) :
    Calls Tryz.prog 52 #[.slice a zs.length c] w fun e w' => e = .returned (.int .i64 (maxL zs)) ∧ w' = w := by
  have hA := Lib.hid h
  have hmx := h.len
  obtain ⟨g, o, rfl, _, hc0⟩ := h.at_ (k := 0) h0
  rw [Nat.add_zero] at hc0
  obtain ⟨L, hL⟩ : ∃ L, L = zs.length := ⟨_, rfl⟩
  rw [← hL] at hmx h0 ⊢
  have HL := Lib.hid hL
  clear hL h
  go_enter Tryz.func52, Tryz.ntmps52
  go_wp2
  go_loop [3, 4] (fun m i => ∃ k : Nat, 0 < k ∧ k ≤ L ∧ i = .int .i64 k ∧ m = .int .i64 (maxL (zs.take k))) (fun _ i => L - (intOf i).toNat)
  case atStart =>
    refine ⟨1, by omega, by omega, rfl, ?_⟩
    have := HL.out
    cases zs with
    | nil => simp at this; omega
    | cons x r => simp [maxL]
  case round =>
    obtain ⟨k, hk0, hk, rfl, rfl⟩ := hrel
    by_cases hlt : k < L
    · have hkm : k < zs.length := by rw [← HL.out]; exact hlt
      obtain ⟨g', o', e, _, hck⟩ := hA.out.at_ (k := k) hkm
      cases e
      go_wp2
      exact ⟨⟨k + 1, by omega, by omega, by go_num, by rw [maxL_step zs k hk0 hkm, List.getElem?_eq_getElem hkm]; rfl⟩, by simp [intOf]; omega⟩
    · go_wp2
      go_ret
      exact ⟨ret_int (by rw [List.take_of_length_le (by rw [← HL.out]; omega)]), rfl⟩
end Go.Proofs.YtifkieopaoooeaaGreatDoor
