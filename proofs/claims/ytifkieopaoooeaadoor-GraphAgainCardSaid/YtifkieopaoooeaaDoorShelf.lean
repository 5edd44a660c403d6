/- strings.Builder, strconv.Itoa, slices.Clone and slices.Max at this program's numbers. -/
import Derived.Shelf.Strings.Builder1
import Derived.Shelf.Strconv.Itoa3
import Derived.Ground.Names2Prog
import Derived.Test.YtifkieopaoooeaaDoorRdr
set_option linter.unusedSimpArgs false
set_option linter.unusedVariables false
namespace Go.Proofs
open Go.Shelf
def Tryd.lays166_ren : Go.Shelf.Ren := ⟨fun | 166 => 15 | 240 => 32 | 276 => 49 | n => n, fun | 70 => 46 | 9 => 9 | 3 => 3 | 75 => 51 | 0 => 0 | 72 => 49 | 37 => 47 | 4 => 4 | 164 => 92 | 80 => 57 | 5 => 5 | n => n, fun | n => n⟩
theorem Tryd.lays166 : Go.Proofs.Lays.n166 Tryd.prog Tryd.lays166_ren :=
  {
    mixed := by kernel_rfl,
    f166 := Tryd.func15.trans (congrArg some (by kernel_rfl)),
    f240 := Tryd.func32.trans (congrArg some (by kernel_rfl)),
    f276 := Tryd.func49.trans (congrArg some (by kernel_rfl)),
    t0 := Tryd.underlying0,
    a0 := Tryd.isAgg0,
    z0 := Tryd.sizeOf0,
    v0 := Tryd.zeroValue0,
    t3 := Tryd.underlying3,
    a3 := Tryd.isAgg3,
    z3 := Tryd.sizeOf3,
    v3 := Tryd.zeroValue3,
    t4 := Tryd.underlying4,
    a4 := Tryd.isAgg4,
    z4 := Tryd.sizeOf4,
    v4 := Tryd.zeroValue4,
    t9 := Tryd.underlying9,
    a9 := Tryd.isAgg9,
    z9 := Tryd.sizeOf9,
    v9 := Tryd.zeroValue9,
    t20 := Tryd.underlying20,
    a20 := Tryd.isAgg20,
    z20 := Tryd.sizeOf20,
    v20 := Tryd.zeroValue20,
    t37 := Tryd.underlying47,
    a37 := Tryd.isAgg47,
    z37 := Tryd.sizeOf47,
    v37 := Tryd.zeroValue47,
    t70 := Tryd.underlying46,
    a70 := Tryd.isAgg46,
    z70 := Tryd.sizeOf46,
    v70 := Tryd.zeroValue46,
    t72 := Tryd.underlying49,
    a72 := Tryd.isAgg49,
    z72 := Tryd.sizeOf49,
    v72 := Tryd.zeroValue49,
    t75 := Tryd.underlying51,
    a75 := Tryd.isAgg51,
    z75 := Tryd.sizeOf51,
    v75 := Tryd.zeroValue51,
    t164 := Tryd.underlying92,
    a164 := Tryd.isAgg92,
    z164 := Tryd.sizeOf92,
    v164 := Tryd.zeroValue92 }
def Tryd.lays169_ren : Go.Shelf.Ren := ⟨fun | 169 => 19 | n => n, fun | 70 => 46 | 9 => 9 | 0 => 0 | 72 => 49 | 37 => 47 | 127 => 74 | 3 => 3 | 5 => 5 | n => n, fun | n => n⟩
theorem Tryd.lays169 : Go.Proofs.Lays.n169 Tryd.prog Tryd.lays169_ren :=
  {
    mixed := by kernel_rfl,
    f169 := Tryd.func19.trans (congrArg some (by kernel_rfl)),
    t0 := Tryd.underlying0,
    a0 := Tryd.isAgg0,
    z0 := Tryd.sizeOf0,
    v0 := Tryd.zeroValue0,
    t3 := Tryd.underlying3,
    a3 := Tryd.isAgg3,
    z3 := Tryd.sizeOf3,
    v3 := Tryd.zeroValue3,
    t9 := Tryd.underlying9,
    a9 := Tryd.isAgg9,
    z9 := Tryd.sizeOf9,
    v9 := Tryd.zeroValue9,
    t37 := Tryd.underlying47,
    a37 := Tryd.isAgg47,
    z37 := Tryd.sizeOf47,
    v37 := Tryd.zeroValue47,
    t70 := Tryd.underlying46,
    a70 := Tryd.isAgg46,
    z70 := Tryd.sizeOf46,
    v70 := Tryd.zeroValue46,
    t72 := Tryd.underlying49,
    a72 := Tryd.isAgg49,
    z72 := Tryd.sizeOf49,
    v72 := Tryd.zeroValue49,
    t127 := Tryd.underlying74,
    a127 := Tryd.isAgg74,
    z127 := Tryd.sizeOf74,
    v127 := Tryd.zeroValue74 }
def Tryd.lays171_ren : Go.Shelf.Ren := ⟨fun | 171 => 16 | 243 => 33 | 246 => 50 | 283 => 60 | 284 => 61 | 285 => 62 | 286 => 63 | 129 => 75 | 317 => 77 | 318 => 78 | 319 => 79 | 320 => 80 | 337 => 94 | 338 => 95 | n => n, fun | 3 => 3 | 9 => 9 | 2 => 2 | 4 => 4 | 171 => 105 | 0 => 0 | 53 => 106 | 37 => 47 | 5 => 5 | 173 => 109 | 212 => 123 | 51 => 119 | 20 => 20 | 213 => 124 | 46 => 103 | 232 => 141 | 233 => 142 | n => n, fun | 17 => 0 | 18 => 1 | 19 => 2 | n => n⟩
theorem Tryd.lays171 : Go.Proofs.Lays.n171 Tryd.prog Tryd.lays171_ren :=
  {
    mixed := by kernel_rfl,
    f129 := Tryd.func75.trans (congrArg some (by kernel_rfl)),
    f171 := Tryd.func16.trans (congrArg some (by kernel_rfl)),
    f243 := Tryd.func33.trans (congrArg some (by kernel_rfl)),
    f246 := Tryd.func50.trans (congrArg some (by kernel_rfl)),
    f283 := Tryd.func60.trans (congrArg some (by kernel_rfl)),
    f284 := Tryd.func61.trans (congrArg some (by kernel_rfl)),
    f285 := Tryd.func62.trans (congrArg some (by kernel_rfl)),
    f286 := Tryd.func63.trans (congrArg some (by kernel_rfl)),
    f317 := Tryd.func77.trans (congrArg some (by kernel_rfl)),
    f318 := Tryd.func78.trans (congrArg some (by kernel_rfl)),
    f319 := Tryd.func79.trans (congrArg some (by kernel_rfl)),
    f320 := Tryd.func80.trans (congrArg some (by kernel_rfl)),
    f337 := Tryd.func94.trans (congrArg some (by kernel_rfl)),
    f338 := Tryd.func95.trans (congrArg some (by kernel_rfl)),
    t0 := Tryd.underlying0,
    a0 := Tryd.isAgg0,
    z0 := Tryd.sizeOf0,
    v0 := Tryd.zeroValue0,
    t2 := Tryd.underlying2,
    a2 := Tryd.isAgg2,
    z2 := Tryd.sizeOf2,
    v2 := Tryd.zeroValue2,
    t3 := Tryd.underlying3,
    a3 := Tryd.isAgg3,
    z3 := Tryd.sizeOf3,
    v3 := Tryd.zeroValue3,
    t4 := Tryd.underlying4,
    a4 := Tryd.isAgg4,
    z4 := Tryd.sizeOf4,
    v4 := Tryd.zeroValue4,
    t5 := Tryd.underlying5,
    a5 := Tryd.isAgg5,
    z5 := Tryd.sizeOf5,
    v5 := Tryd.zeroValue5,
    t9 := Tryd.underlying9,
    a9 := Tryd.isAgg9,
    z9 := Tryd.sizeOf9,
    v9 := Tryd.zeroValue9,
    t20 := Tryd.underlying20,
    a20 := Tryd.isAgg20,
    z20 := Tryd.sizeOf20,
    v20 := Tryd.zeroValue20,
    t37 := Tryd.underlying47,
    a37 := Tryd.isAgg47,
    z37 := Tryd.sizeOf47,
    v37 := Tryd.zeroValue47,
    t46 := Tryd.underlying103,
    a46 := Tryd.isAgg103,
    z46 := Tryd.sizeOf103,
    v46 := Tryd.zeroValue103,
    t51 := Tryd.underlying119,
    a51 := Tryd.isAgg119,
    z51 := Tryd.sizeOf119,
    v51 := Tryd.zeroValue119,
    t53 := Tryd.underlying106,
    a53 := Tryd.isAgg106,
    z53 := Tryd.sizeOf106,
    v53 := Tryd.zeroValue106,
    t171 := Tryd.underlying105,
    a171 := Tryd.isAgg105,
    z171 := Tryd.sizeOf105,
    v171 := Tryd.zeroValue105,
    t173 := Tryd.underlying109,
    a173 := Tryd.isAgg109,
    z173 := Tryd.sizeOf109,
    v173 := Tryd.zeroValue109,
    t212 := Tryd.underlying123,
    a212 := Tryd.isAgg123,
    z212 := Tryd.sizeOf123,
    v212 := Tryd.zeroValue123,
    t213 := Tryd.underlying124,
    a213 := Tryd.isAgg124,
    z213 := Tryd.sizeOf124,
    t232 := Tryd.underlying141,
    a232 := Tryd.isAgg141,
    z232 := Tryd.sizeOf141,
    v232 := Tryd.zeroValue141,
    t233 := Tryd.underlying142,
    a233 := Tryd.isAgg142,
    z233 := Tryd.sizeOf142,
    v233 := Tryd.zeroValue142,
    g17 := by kernel_rfl,
    g18 := by kernel_rfl,
    g19 := by kernel_rfl }
end Go.Proofs
namespace Go.Proofs.YtifkieopaoooeaaDoor
open Go.RowKit Go.Shelf Plain PlainG
theorem bx166 : Builder.Extra Tryd.prog Tryd.lays166_ren where
  sizeBuilder := by kernel_rfl
  liesBuilder := by kernel_rfl
  t5 := Tryd.underlying5
  a5 := Tryd.isAgg5
  z5 := Tryd.sizeOf5
  v5 := Tryd.zeroValue5
  infoByte := by kernel_rfl
  cellsByte := by kernel_rfl
  sizeByte := by kernel_rfl
  neB5 := by decide
theorem bx169 : Builder.Extra Tryd.prog Tryd.lays169_ren where
  sizeBuilder := by kernel_rfl
  liesBuilder := by kernel_rfl
  t5 := Tryd.underlying5
  a5 := Tryd.isAgg5
  z5 := Tryd.sizeOf5
  v5 := Tryd.zeroValue5
  infoByte := by kernel_rfl
  cellsByte := by kernel_rfl
  sizeByte := by kernel_rfl
  neB5 := by decide
/-- A string of bytes. -/
def sb (l : List Nat) : ByteArray := ⟨(l.map UInt8.ofNat).toArray⟩
theorem sb_size (l : List Nat) : (sb l).size = l.length := by unfold sb; simp [ByteArray.size]
theorem sb_app (a b : List Nat) : sb a ++ sb b = sb (a ++ b) := by
  apply ByteArray.ext
  rw [ByteArray.data_append]
  simp [sb]
theorem sb_bytes {l : List Nat} (h : ∀ x ∈ l, x < 256) : bytesOf (sb l) = l := by
  unfold bytesOf sb
  simp only [List.map_map]
  conv => rhs; rw [← List.map_id l]
  apply List.map_congr_left
  intro x hx
  simp [Nat.mod_eq_of_lt (h x hx)]
theorem sb_inj {a b : List Nat} (ha : ∀ x ∈ a, x < 256) (hb : ∀ x ∈ b, x < 256) (h : sb a = sb b) : a = b := by rw [← sb_bytes ha, ← sb_bytes hb, h]
theorem sb_of (s : ByteArray) : sb (bytesOf s) = s := by
  apply ByteArray.ext
  unfold sb bytesOf
  simp only [List.map_map]
  have : (UInt8.ofNat ∘ UInt8.toNat) = id := by funext x; simp
  rw [this, List.map_id]
/-- A builder that holds bytes. -/
def Bld (w : World) (B b : Nat) (l : List Nat) : Prop := Lib.IsBuilder 49 5 B b (Lib.byteCells (l.map UInt8.ofNat)) w
theorem Bld.fresh (w : World) : Bld (w.alloc (.cells #[.pointer none, .slice none 0 0] 49)) w.heap.size w.heap.size [] := Lib.fresh_isBuilder 49 5 w
theorem write_calls {w : World} {B b : Nat} {l m : List Nat} (h : Bld w B b l) (hl : l.length + m.length ≤ 1000000) (hB : B ≤ w.heap.size) :
    Calls Tryd.prog 15 #[.pointer (some ⟨b, 0, none⟩), .string (sb m)] w fun e w' => e = .returned (.tuple #[.int .i64 m.length, .nilIface]) ∧ Bld w' B b (l ++ m) ∧ Below B w w' := by
  have hc := Any.Builder_WriteString Tryd.lays166 bx166 B b _ (sb m) w h (by rw [Lib.byteCells_length, List.length_map, sb_size]; omega) hB
  change Calls Tryd.prog 15 _ _ _ at hc
  refine hc.mono ?_
  rintro e w' ⟨rfl, h1, h2⟩
  refine ⟨by rw [sb_size], ?_, h2⟩
  have e1 : Lib.byteCells ((l ++ m).map UInt8.ofNat) = Lib.byteCells (l.map UInt8.ofNat) ++ Lib.strCells (sb m) := by
    rw [List.map_append, Lib.byteCells_append]; rfl
  unfold Bld
  rw [e1]
  exact .inr h1
theorem string_calls {w : World} {B b : Nat} {l : List Nat} (h : Bld w B b l) (hB : B ≤ w.heap.size) :
    Calls Tryd.prog 19 #[.pointer (some ⟨b, 0, none⟩)] w fun e w' => e = .returned (.string (sb l)) ∧ Below B w w' := by
  have hc := Any.Builder_String_any Tryd.lays169 bx169 B b _ w h hB
  change Calls Tryd.prog 19 _ _ _ at hc
  exact hc
theorem decDigits_dec : ∀ i : Nat, i < 100 → Lib.decDigits i = (dec i).map UInt8.ofNat := by
  intro i hi
  by_cases h9 : 9 < i
  · rw [Lib.decDigits, dif_neg (by omega), Lib.decDigits, dif_pos (by omega)]
    unfold dec
    rw [if_pos h9]; rfl
  · rw [Lib.decDigits, dif_pos (by omega)]
    unfold dec
    rw [if_neg h9]; rfl
theorem itoa_calls (i : Nat) (hi : i < 100) (w : World) : Calls Tryd.prog 16 #[.int .i64 (i : Int)] w fun e w' => e = .returned (.string (sb (dec i))) ∧ w' = w := by
  have hc := Any.strconv_Itoa_small Tryd.lays171 i hi w
  change Calls Tryd.prog 16 _ _ _ at hc
  rw [decDigits_dec i hi] at hc
  exact hc
def maxL : List Int → Int
  | [] => 0
  | x :: r => r.foldl max x
theorem maxL_step (zs : List Int) (k : Nat) (h0 : 0 < k) (hk : k < zs.length) : maxL (zs.take (k + 1)) = max (maxL (zs.take k)) (zs[k]?.getD 0) := by
  cases zs with
  | nil => simp at hk
  | cons x r =>
    obtain ⟨j, rfl⟩ : ∃ j, k = j + 1 := ⟨k - 1, by omega⟩
    simp only [List.take_succ_cons, maxL, List.getElem?_cons_succ]
    rw [List.take_add_one, List.foldl_append]
    have hj : j < r.length := by simpa using hk
    rw [List.getElem?_eq_getElem hj]
    simp
theorem maxL_nonneg : ∀ (r : List Int) (x : Int), x ≤ r.foldl max x
  | [], x => Int.le_refl _
  | y :: r, x => by rw [List.foldl_cons]; have := maxL_nonneg r (max x y); omega
theorem maxL_mem : ∀ (r : List Int) (x : Int), r.foldl max x = x ∨ r.foldl max x ∈ r
  | [], x => .inl rfl
  | y :: r, x => by
    rw [List.foldl_cons]
    rcases maxL_mem r (max x y) with h | h
    · rw [h]
      rcases Int.le_total x y with h2 | h2
      · right; rw [Int.max_eq_right h2]; simp
      · left; rw [Int.max_eq_left h2]
    · right; exact List.mem_cons_of_mem _ h
theorem maxL_ge : ∀ (r : List Int) (x y : Int), y ∈ r → y ≤ r.foldl max x
  | [], x, y, h => by simp at h
  | z :: r, x, y, h => by
    rw [List.foldl_cons]
    rcases List.mem_cons.1 h with e | e
    · subst e; have := maxL_nonneg r (max x y); omega
    · exact maxL_ge r _ y e
/-- The greatest of numbers that are not negative is 0 exactly if all are 0. -/
theorem maxL_zero {l : List Int} (hl : l ≠ []) (h : ∀ x ∈ l, 0 ≤ x) : maxL l = 0 ↔ l.all (· == 0) = true := by
  cases l with
  | nil => exact absurd rfl hl
  | cons x r =>
    rw [List.all_eq_true]
    show r.foldl max x = 0 ↔ _
    constructor
    · intro he y hy
      have h0 := h y hy
      have : y ≤ r.foldl max x := by
        rcases List.mem_cons.1 hy with e | e
        · subst e; exact maxL_nonneg r y
        · exact maxL_ge r x y e
      simp only [beq_iff_eq]; omega
    · intro ha
      rcases maxL_mem r x with e | e
      · rw [e]; simpa using ha x (by simp)
      · have := ha _ (List.mem_cons_of_mem _ e); simpa using this
theorem maxL_pos {l : List Int} (h : ∀ x ∈ l, 0 ≤ x) : (0 < maxL (l ++ [0])) ↔ ¬ l.all (· == 0) = true := by
  have hz := maxL_zero (l := l ++ [0]) (by simp) (fun x hx => by
    rcases List.mem_append.1 hx with e | e
    · exact h x e
    · simp at e; omega)
  have hge : 0 ≤ maxL (l ++ [0]) := by
    cases l with
    | nil => simp [maxL]
    | cons x r => exact maxL_ge _ _ _ (by simp)
  rw [List.all_append] at hz
  constructor
  · intro h1 h2
    rw [h2] at hz
    have := hz.2 (by simp)
    omega
  · intro h1
    rcases Int.lt_or_eq_of_le hge with h2 | h2
    · exact h2
    · exfalso
      have := hz.1 h2.symm
      rw [Bool.and_eq_true] at this
      exact h1 this.1
set_option maxHeartbeats 400000 in
theorem max_calls {w : World} {a : Option Addr} {zs : List Int} (c : Nat) (h : Ints w a zs) (h0 : 0 < zs.length) :
    Calls Tryd.prog 17 #[.slice a zs.length c] w fun e w' => e = .returned (.int .i64 (maxL zs)) ∧ w' = w := by
  have hA := Lib.hid h
  have hmx := h.len
  obtain ⟨g, o, rfl, _, hc0⟩ := h.at_ (k := 0) h0
  rw [Nat.add_zero] at hc0
  obtain ⟨L, hL⟩ : ∃ L, L = zs.length := ⟨_, rfl⟩
  rw [← hL] at hmx h0 ⊢
  have HL := Lib.hid hL
  clear hL h
  go_enter Tryd.func17, Tryd.ntmps17
  go_wp2
  go_loop [3, 4] (fun m i => ∃ k : Nat, 0 < k ∧ k ≤ L ∧ i = .int .i64 k ∧ m = .int .i64 (maxL (zs.take k))) (fun _ i => L - (intOf i).toNat)
  case atStart =>
    refine ⟨1, by omega, by omega, rfl, ?_⟩
    have := HL.out
    cases zs with
    | nil => simp at this; omega
    | cons x r => simp [maxL]
  case round =>
    obtain ⟨k, hk0, hk, rfl, rfl⟩ := hrel
    by_cases hlt : k < L
    · have hkm : k < zs.length := by rw [← HL.out]; exact hlt
      obtain ⟨g', o', e, _, hck⟩ := hA.out.at_ (k := k) hkm
      cases e
      go_wp2
      exact ⟨⟨k + 1, by omega, by omega, by go_num, by rw [maxL_step zs k hk0 hkm, List.getElem?_eq_getElem hkm]; rfl⟩, by simp [intOf]; omega⟩
    · go_wp2
      go_ret
      exact ⟨ret_int (by rw [List.take_of_length_le (by rw [← HL.out]; omega)]), rfl⟩
end Go.Proofs.YtifkieopaoooeaaDoor
