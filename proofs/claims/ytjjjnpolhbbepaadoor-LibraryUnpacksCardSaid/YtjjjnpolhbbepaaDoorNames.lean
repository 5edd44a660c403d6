/- Names. -/
import Derived.Test.YtjjjnpolhbbepaaDoorBase
import Derived.Test.YtjjjnpolhbbepaaDoorPlainLib
import Derived.Test.YtjjjnpolhbbepaaDoorShelf
set_option linter.unusedSimpArgs false
set_option linter.unusedVariables false
namespace Go.Proofs.YtjjjnpolhbbepaaDoor
open Go.RowKit
open Plain
def cutset : List UInt8 := [97, 98, 99, 100, 101, 102, 103, 104, 105, 106, 107, 108, 109, 110, 111, 112, 113, 114, 115, 116, 117, 118, 119, 120, 121, 122, 48, 49, 50, 51, 52, 53, 54, 55, 56, 57, 45, 95]
theorem cut_nat : ∀ n : Fin 256, cutset.contains (UInt8.ofNat n.val) = okc n.val := by decide +kernel
theorem cut_okc (x : UInt8) : cutset.contains x = okc x.toNat := by
  have := cut_nat ⟨x.toNat, x.toNat_lt⟩
  simpa using this
theorem okc_lt {n : Nat} (h : okc n = true) : n < 128 := by
  unfold okc at h
  simp at h
  omega
theorem trim_nil (s : List UInt8) : Lib.trimS s cutset = [] ↔ s.all (fun x => okc x.toNat) = true := by
  have e : ∀ l : List UInt8, l.dropWhile (cutset.contains ·) = [] ↔ l.all (fun x => okc x.toNat) = true := by
    intro l
    induction l with
    | nil => simp
    | cons x l ih =>
      rw [List.dropWhile_cons]
      cases h : cutset.contains x
      · have h2 := h; rw [cut_okc] at h2; simp [h2]
      · have h2 := h; rw [cut_okc] at h2; rw [if_pos rfl, ih]; simp [h2]
  unfold Lib.trimS Lib.trimLeftS Lib.trimRightS
  rw [e]
  constructor
  · intro h
    by_cases h0 : (s.reverse.dropWhile (cutset.contains ·)) = []
    · have := (e _).1 h0; simpa using this
    · exfalso
      obtain ⟨x, r, hx⟩ : ∃ x r, s.reverse.dropWhile (cutset.contains ·) = x :: r := by
        cases hh : s.reverse.dropWhile (cutset.contains ·) with
        | nil => exact absurd hh h0
        | cons x r => exact ⟨x, r, rfl⟩
      have h1 := List.head?_dropWhile_not (cutset.contains ·) s.reverse
      rw [hx] at h1 h
      simp only [List.head?_cons] at h1
      rw [cut_okc] at h1
      simp only [List.all_reverse, List.all_cons, Bool.and_eq_true] at h
      rw [h.1] at h1
      simp at h1
  · intro h
    have h0 : s.reverse.dropWhile (cutset.contains ·) = [] := (e _).2 (by simpa using h)
    rw [h0]; rfl
def notc (r : Nat) : Bool := !okc r
theorem notc_eq {r : Nat} {b : Bool} (h : okc r = !b) : b = notc r := by unfold notc; rw [h]; simp
set_option maxHeartbeats 1000000 in
theorem name1_calls (r : Nat) (w : World) : Calls Tryd.prog 42 #[.int .i32 (r : Int)] w fun e w' => e = .returned (.bool (notc r)) ∧ w' = w := by
  by_cases h1 : 97 ≤ r ∧ r ≤ 122
  · have hk := notc_eq (r := r) (b := false) (by unfold okc; simp [h1])
    rw [← hk]; clear hk
    obtain ⟨a1, a2⟩ := h1
    go_enter Tryd.func42, Tryd.ntmps42
    go_wp2
    go_ret
    exact ⟨rfl, rfl⟩
  by_cases h2 : 48 ≤ r ∧ r ≤ 57
  · have hk := notc_eq (r := r) (b := false) (by unfold okc; simp [h2])
    rw [← hk]; clear hk
    obtain ⟨a1, a2⟩ := h2
    have a3 : ¬ 97 ≤ r := by omega
    clear h1
    go_enter Tryd.func42, Tryd.ntmps42
    go_wp2
    go_ret
    exact ⟨rfl, rfl⟩
  by_cases h3 : r = 45
  · subst h3
    go_enter Tryd.func42, Tryd.ntmps42
    go_wp2
    go_ret
    exact ⟨rfl, rfl⟩
  by_cases h4 : r = 95
  · subst h4
    go_enter Tryd.func42, Tryd.ntmps42
    go_wp2
    go_ret
    exact ⟨rfl, rfl⟩
  have hk := notc_eq (r := r) (b := true) (by unfold okc; simp; omega)
  rw [← hk]; clear hk
  have e3 : ((r : Int) == 45) = false := by simp; omega
  have e4 : ((r : Int) == 95) = false := by simp; omega
  clear h3 h4
  rcases Nat.lt_or_ge r 97 with a | a
  · rcases Nat.lt_or_ge r 48 with b | b
    · clear h1 h2
      go_enter Tryd.func42, Tryd.ntmps42
      go_wp2
      go_ret
      exact ⟨rfl, rfl⟩
    · have b2 : 57 < r := by omega
      clear h1 h2
      go_enter Tryd.func42, Tryd.ntmps42
      go_wp2
      go_ret
      exact ⟨(ret_bool (by simp; omega) : Ending.returned (.bool (!decide ((r : Int) ≤ 57))) = _), rfl⟩
  · have a2 : 122 < r := by omega
    have b2 : 57 < r := by omega
    clear h1 h2
    go_enter Tryd.func42, Tryd.ntmps42
    go_wp2
    go_ret
    exact ⟨(ret_bool (by simp; omega) : Ending.returned (.bool (!decide ((r : Int) ≤ 122) && !decide ((r : Int) ≤ 57))) = _), rfl⟩
theorem idx_none {s : ByteArray} (h : s.data.toList.all (fun x => okc x.toNat) = true) : ∀ f pos, Lib.idxFuncFrom notc true s f pos = -1
  | 0, pos => rfl
  | f + 1, pos => by
    unfold Lib.idxFuncFrom
    split
    · rename_i hp
      have hb : okc (s.get! pos).toNat = true := by
        have h2 := List.all_eq_true.1 h (s.get! pos) (by
          have hsz : s.data.size = s.size := rfl
          have : s.get! pos = s.data[pos] := by
            cases s with
            | mk bs => exact getElem!_pos bs pos hp
          rw [this]
          exact Array.getElem_mem_toList _)
        exact h2
      have hd : Utf8.decode s pos = ((s.get! pos).toNat, 1) := by
        have := okc_lt hb
        unfold Utf8.decode
        simp only [Nat.add_zero]
        rw [if_pos this]
      rw [hd]
      rw [if_neg (by unfold notc; rw [hb]; simp)]
      exact idx_none h f _
    · rfl
theorem contains_none {s : ByteArray} (h : s.data.toList.all (fun x => okc x.toNat) = true) : decide (0 ≤ Lib.idxFunc notc true s) = false := by
  unfold Lib.idxFunc
  rw [idx_none h]; rfl

theorem enters42 : ∀ args w, (callFunc 42 args).run Tryd.prog w = .ok (.enter 42 args) w := enters_of Tryd.func42 (by kernel_rfl) rfl
theorem notc_at (w : World) : PredAt Tryd.prog 42 #[] encR notc w := fun W x _ =>
  (name1_calls x W).mono fun _ _ ⟨h1, h2⟩ => ⟨h1, 0, h2⟩
theorem Tryd.info90 : (Tryd.prog.info? 90).map (fun i => (i.zero, i.size)) = some (some (.agg (Array.replicate 256 (.bool false))), 256) := by kernel_rfl
theorem trim_calls (s : ByteArray) (w : World) (hs : s.size ≤ 9223372036854775807) :
    Calls Tryd.prog 40 #[.string s, .string ⟨cutset.toArray⟩] w fun e w' => e = .returned (.string ⟨(Lib.trimS s.data.toList cutset).toArray⟩) ∧ Below w.heap.size w w' :=
  Any.strings_Trim_laid (ρ := Tryd.lays160_ren) Tryd.lays160 Tryd.info90 s ⟨cutset.toArray⟩ w hs (by show (38 : Nat) < _; omega) (ascii_of_all (l := cutset) (by decide))
set_option maxRecDepth 100000 in
set_option maxHeartbeats 1000000 in
theorem name_calls (s : ByteArray) (w : World) (hs : s.size ≤ 9223372036854775807) :
    Calls Tryd.prog 31 #[.string s] w fun e w' => e = .returned (.bool (okName (bytesOf s))) ∧ Below w.heap.size w w' := by
  have hlen : (bytesOf s).length = s.size := by unfold bytesOf; simp
  by_cases h1 : 1 ≤ s.size
  · by_cases h2 : s.size ≤ 20
    · have ht := trim_calls s w hs
      cases hall : s.data.toList.all (fun x => okc x.toNat)
      · have hok : okName (bytesOf s) = false := by
          unfold okName
          have : (bytesOf s).all okc = false := by unfold bytesOf; rw [List.all_map]; exact hall
          rw [this]; simp
        rw [hok]
        have hne : Lib.trimS s.data.toList cutset ≠ [] := fun e => by rw [trim_nil, hall] at e; cases e
        obtain ⟨T, hT⟩ : ∃ T, Lib.trimS s.data.toList cutset = T := ⟨_, rfl⟩
        rw [hT] at ht hne
        have Ht := Lib.hid ht
        have hne2 : ¬ T = [] := hne
        clear ht hT hall hok hlen hne
        go_enter Tryd.func31, Tryd.ntmps31
        go_wp2_with (first | (go_at_call 40; refine Ht.out.mono ?_; rintro e w1 ⟨rfl, hb⟩; have HB := Lib.hid hb; clear hb))
        go_ret
        exact ⟨rfl, HB.out⟩
      · have hok : okName (bytesOf s) = true := by
          unfold okName
          have : (bytesOf s).all okc = true := by unfold bytesOf; rw [List.all_map]; exact hall
          rw [this, hlen]; simp; omega
        rw [hok]
        rw [(trim_nil s.data.toList).2 hall] at ht
        have hcf := fun w1 => Tryd.strings_ContainsFunc 42 #[] enters42 notc s w1 (notc_at w1)
        rw [contains_none hall] at hcf
        have Ht := Lib.hid ht
        have Hc := Lib.hid hcf
        clear ht hcf hall hok hlen
        go_enter Tryd.func31, Tryd.ntmps31
        go_wp2_with (first | (go_at_call 40; refine Ht.out.mono ?_; rintro e w1 ⟨rfl, hb⟩; have HB := Lib.hid hb; clear hb) | (go_at_call 41; refine (Hc.out _).mono ?_; rintro e w2 ⟨rfl, hb2⟩; have HB2 := Lib.hid hb2; clear hb2))
        go_ret
        exact ⟨rfl, HB.out.trans (HB2.out.mono HB.out.size)⟩
    · have hok : okName (bytesOf s) = false := by unfold okName; rw [hlen]; simp; omega
      rw [hok]
      clear hok hlen
      go_enter Tryd.func31, Tryd.ntmps31
      go_wp2
      go_ret
      exact ⟨rfl, Below.refl _ _⟩
  · have hok : okName (bytesOf s) = false := by unfold okName; rw [hlen]; simp; omega
    rw [hok]
    clear hok hlen
    go_enter Tryd.func31, Tryd.ntmps31
    go_wp2
    go_ret
    exact ⟨rfl, Below.refl _ _⟩
end Go.Proofs.YtjjjnpolhbbepaaDoor
