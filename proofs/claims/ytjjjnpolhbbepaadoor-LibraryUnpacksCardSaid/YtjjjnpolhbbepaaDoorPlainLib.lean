/- Packed libraries: what packing and unpacking compute. Plain. -/
import Derived.Test.YtjjjnpolhbbepaaDoorPlainBits
import Derived.Test.YtjjjnpolhbbepaaDoorPlainSum
import GoSem.Op.String
set_option linter.unusedSimpArgs false
set_option linter.unusedVariables false
namespace Go.Proofs.YtjjjnpolhbbepaaDoor.Plain
def okc (c : Nat) : Bool := decide (97 ≤ c) && decide (c ≤ 122) || decide (48 ≤ c) && decide (c ≤ 57) || c == 45 || c == 95
def okName (s : List Nat) : Bool := decide (1 ≤ s.length) && decide (s.length ≤ 20) && s.all okc
structure Ent where
  name : ByteArray
  deg : Int
  gens : List (List Int)
def bytesOf (s : ByteArray) : List Nat := s.data.toList.map UInt8.toNat
def nameOf (l : List Nat) : ByteArray := ⟨(l.map UInt8.ofNat).toArray⟩
def leS (x y : ByteArray) : Bool := Go.Op.bytesLess x.toList y.toList || x.toList == y.toList

/-- Images in range and apart, behind those seen. -/
def okFrom (n : Nat) : List Int → List Int → Bool
  | _, [] => true
  | seen, x :: r => decide (0 ≤ x) && decide (x < n) && !(seen.contains x) && okFrom n (x :: seen) r
def fine (p : List Int) : Bool := okFrom p.length [] p
def chkPerm (p : List Int) : Int := if p.length < 1 ∨ 64 < p.length then 2 else if fine p then 0 else 3
def chkGens (deg : Int) : List (List Int) → Int
  | [] => 0
  | p :: ps => if chkPerm p ≠ 0 then chkPerm p else if (p.length : Int) ≠ deg then 10 else chkGens deg ps
def chkGroup (deg : Int) (gens : List (List Int)) : Int := if deg < 1 ∨ 64 < deg then 2 else if 16 < gens.length then 4 else chkGens deg gens
def chkFrom : Option ByteArray → List Ent → Int
  | _, [] => 0
  | last, e :: es =>
    if okName (bytesOf e.name) = false then 17
    else if (last.any fun l => leS e.name l) then 9
    else if chkGroup e.deg e.gens ≠ 0 then chkGroup e.deg e.gens
    else chkFrom (some e.name) es
def chk (l : List Ent) : Int := if 200 < l.length then 4 else chkFrom none l

def wid (n : Nat) : Nat := if n ≤ 1 then 0 else Nat.log2 (n - 1) + 1
def digs : List Int → List Nat
  | [] => []
  | v :: r => (r.filter fun u => decide (u < v)).length :: digs r
def bitsN (n : Nat) : Nat → List Nat
  | 0 => []
  | w + 1 => (n / 2 ^ w % 2) :: bitsN n w
def bitsD : List Nat → List Nat
  | [] => []
  | d :: ds => bitsN d (wid (ds.length + 1)) ++ bitsD ds
def bitsG (gens : List (List Int)) : List Nat := gens.flatMap fun p => bitsD (digs p)
def packEnt (e : Ent) : List Nat := (bytesOf e.name).length :: (bytesOf e.name ++ ([e.deg.toNat, e.gens.length] ++ chunk (bitsG e.gens)))
def packBody (l : List Ent) : List Nat := [67, 71, 76, 49, l.length / 256 % 256, l.length % 256] ++ l.flatMap packEnt
def packAll (l : List Ent) : List Nat := packBody l ++ four (sumB (packBody l))

def bitAt (b : List Nat) (at_ p : Nat) : Nat := b[at_ + p / 8]?.getD 0 / 2 ^ (7 - p % 8) % 2
def readF (f : Nat → Nat) (p : Nat) : Nat → Nat
  | 0 => 0
  | w + 1 => 2 * readF f p w + f (p + w)
def digF (f : Nat → Nat) : Nat → Nat → List Nat
  | _, 0 => []
  | p, n + 1 => readF f p (wid (n + 1)) :: digF f (p + wid (n + 1)) n
def totW : Nat → Nat
  | 0 => 0
  | n + 1 => wid (n + 1) + totW n
def permL {α : Type} : List α → List Nat → Option (List α)
  | _, [] => some []
  | left, d :: ds => match left[d]? with
    | none => none
    | some v => (permL (left.eraseIdx d) ds).map (v :: ·)
def base (n : Nat) : List Int := (List.range n).map Int.ofNat
def gensF (f : Nat → Nat) (n : Nat) : Nat → Nat → Option (List (List Int))
  | _, 0 => some []
  | p, k + 1 => match permL (base n) (digF f p n) with
    | none => none
    | some q => (gensF f n (p + totW n) k).map (q :: ·)
def entP (b : List Nat) (at_ : Nat) (last : Option ByteArray) : Except Int (Ent × Nat) :=
  if b.length ≤ at_ then .error 18
  else if b.length < at_ + 1 + b[at_]?.getD 0 then .error 18
  else if okName ((b.drop (at_ + 1)).take (b[at_]?.getD 0)) = false then .error 17
  else if (last.any fun l => leS (nameOf ((b.drop (at_ + 1)).take (b[at_]?.getD 0))) l) then .error 9
  else if b.length < at_ + 1 + b[at_]?.getD 0 + 2 then .error 18
  else if b[at_ + 1 + b[at_]?.getD 0]?.getD 0 < 1 ∨ 64 < b[at_ + 1 + b[at_]?.getD 0]?.getD 0 ∨ 16 < b[at_ + 1 + b[at_]?.getD 0 + 1]?.getD 0 then .error 3
  else if b.length < at_ + 1 + b[at_]?.getD 0 + 2 + (b[at_ + 1 + b[at_]?.getD 0 + 1]?.getD 0 * totW (b[at_ + 1 + b[at_]?.getD 0]?.getD 0) + 7) / 8 then .error 18
  else match gensF (bitAt b (at_ + 1 + b[at_]?.getD 0 + 2)) (b[at_ + 1 + b[at_]?.getD 0]?.getD 0) 0 (b[at_ + 1 + b[at_]?.getD 0 + 1]?.getD 0) with
    | none => .error 3
    | some gs =>
      if readF (bitAt b (at_ + 1 + b[at_]?.getD 0 + 2)) (b[at_ + 1 + b[at_]?.getD 0 + 1]?.getD 0 * totW (b[at_ + 1 + b[at_]?.getD 0]?.getD 0)) ((8 - b[at_ + 1 + b[at_]?.getD 0 + 1]?.getD 0 * totW (b[at_ + 1 + b[at_]?.getD 0]?.getD 0) % 8) % 8) ≠ 0 then .error 3
      else .ok (⟨nameOf ((b.drop (at_ + 1)).take (b[at_]?.getD 0)), (b[at_ + 1 + b[at_]?.getD 0]?.getD 0 : Nat), gs⟩, at_ + 1 + b[at_]?.getD 0 + 2 + (b[at_ + 1 + b[at_]?.getD 0 + 1]?.getD 0 * totW (b[at_ + 1 + b[at_]?.getD 0]?.getD 0) + 7) / 8)
def entsA (b : List Nat) : Nat → Option ByteArray → List Ent → Nat → List Ent × Int × Nat
  | at_, _, acc, 0 => if at_ < b.length then ([], 3, at_) else (acc, 0, 0)
  | at_, last, acc, k + 1 => match entP b at_ last with
    | .error e => ([], e, at_)
    | .ok x => entsA b x.2 (some x.1.name) (acc ++ [x.1]) k
def unpack (b : List Nat) : List Ent × Int × Nat :=
  if b.length < 10 then ([], 18, b.length)
  else if b.take 4 ≠ [67, 71, 76, 49] then ([], 3, 0)
  else if four (sumB (b.take (b.length - 4))) ≠ b.drop (b.length - 4) then ([], 14, b.length - 4)
  else if 200 < b[4]?.getD 0 * 256 + b[5]?.getD 0 then ([], 4, 4)
  else entsA (b.take (b.length - 4)) 6 none [] (b[4]?.getD 0 * 256 + b[5]?.getD 0)

theorem unpack_empty {b : List Nat} : ∀ {k at_ last acc}, (entsA b at_ last acc k).2.1 ≠ 0 → (entsA b at_ last acc k).1 = []
  | 0, at_, last, acc => by unfold entsA; split <;> simp
  | k + 1, at_, last, acc => by
    unfold entsA
    split
    · intro _; rfl
    · exact fun h => unpack_empty h
/-- One byte changed: rejected. -/
theorem unpack_changed {l : List Ent} {i c : Nat} (hi : i < (packAll l).length) (hl : l.length ≤ 200) (hb : ∀ x ∈ packAll l, x < 256) (hc : c < 256) (hne : c ≠ (packAll l)[i]?.getD 0) :
    (unpack ((packAll l).set i c)).2.1 ≠ 0 ∧ (unpack ((packAll l).set i c)).1 = [] := by
  have hlen : (packAll l).length = (packBody l).length + 4 := by simp [packAll, four]
  have hpos : 6 ≤ (packBody l).length := by simp [packBody]
  have h4 : (packAll l).take 4 = [67, 71, 76, 49] := by simp [packAll, packBody]
  unfold unpack
  rw [List.length_set, if_neg (by omega)]
  by_cases hi4 : i < 4
  · rw [if_pos]
    · exact ⟨by simp, rfl⟩
    · rw [List.take_set, h4]
      intro e
      have h1 : (packAll l)[i]? = [67, 71, 76, 49][i]? := by rw [← h4, List.getElem?_take, if_pos hi4]
      have h2 := congrArg (fun m : List Nat => m[i]?) e
      rw [List.getElem?_set_self (by simpa using hi4)] at h2
      rw [h1, ← h2] at hne
      simp at hne
  · rw [if_neg]
    · rw [if_pos]
      · exact ⟨by simp, rfl⟩
      · rw [hlen, show (packBody l).length + 4 - 4 = (packBody l).length by omega]
        by_cases hib : i < (packBody l).length
        · rw [packAll, List.set_append_left _ _ hib, List.take_left' (by simp), List.drop_left' (by simp)]
          intro e
          have hs : ∀ m, sumB m < 4294967296 := fun m => sumTo_lt (by omega) m
          have e := four_inj (hs _) (hs _) e
          have hg : (packAll l)[i]?.getD 0 = (packBody l)[i] := by rw [packAll, List.getElem?_append_left hib, List.getElem?_eq_getElem hib]; rfl
          rw [hg] at hne
          have hd : packBody l = (packBody l).take i ++ (packBody l)[i] :: (packBody l).drop (i + 1) := by
            rw [List.getElem_cons_drop, List.take_append_drop]
          have hs2 : (packBody l).set i c = (packBody l).take i ++ c :: (packBody l).drop (i + 1) := by
            rw [List.set_eq_take_append_cons_drop, if_pos hib]
          rw [hs2] at e
          rw [show sumB (packBody l) = sumB ((packBody l).take i ++ (packBody l)[i] :: (packBody l).drop (i + 1)) from congrArg sumB hd] at e
          exact sum_changed hc (hb _ (by rw [packAll]; exact List.mem_append_left _ (List.getElem_mem _))) hne e
        · rw [packAll, List.set_append_right _ _ (by omega), List.take_left' rfl, List.drop_left' rfl]
          intro e
          have hj : i - (packBody l).length < (four (sumB (packBody l))).length := by simp [four]; omega
          have h2 := congrArg (fun m : List Nat => m[i - (packBody l).length]?) e
          rw [List.getElem?_set_self hj] at h2
          rw [packAll, List.getElem?_append_right (by omega), h2] at hne
          exact hne rfl
    · rw [List.take_set_of_le (by omega)]
      simp [h4]
end Go.Proofs.YtjjjnpolhbbepaaDoor.Plain
