/- Of: the partition by labels. -/
import Derived.Test.YtifkieopaoooeaaDoorGrouped
set_option linter.unusedSimpArgs false
set_option linter.unusedVariables false
namespace Go.Proofs.YtifkieopaoooeaaDoor
open Go.RowKit Go.Sort Go.Shelf Plain

set_option maxHeartbeats 400000 in
theorem of1_calls (w : World) (B n : Nat) (lab : List Int) (al : Option Addr) (cl : Nat) (hB : w.cell? ⟨B, 0, none⟩ = some (.slice al n cl)) (hl : Ints w al lab) (hn : lab.length = n) (x y : Nat) (hx : x < n) (hy : y < n) :
    Calls Tryd.prog 53 #[.int .i64 x, .int .i64 y, .pointer (some ⟨B, 0, none⟩)] w fun e w' => e = .returned (.int .i64 (cmpL [lab[x]?.getD 0] [lab[y]?.getD 0])) ∧ Grew w w' := by
  obtain ⟨g, o, rfl, hgl, hlx⟩ := hl.at_ (k := x) (by rw [hn]; exact hx)
  obtain ⟨g', o', e3, _, hly⟩ := hl.at_ (k := y) (by rw [hn]; exact hy)
  cases e3
  obtain ⟨lx, hlxe⟩ : ∃ lx, lab[x]?.getD 0 = lx := ⟨_, rfl⟩
  obtain ⟨ly, hlye⟩ : ∃ ly, lab[y]?.getD 0 = ly := ⟨_, rfl⟩
  rw [hlxe] at hlx ⊢
  rw [hlye] at hly ⊢
  have hxn : (x : Int) < n := by omega
  have hyn : (y : Int) < n := by omega
  have hc := Lib.hid (fun m => cmpInt_calls lx ly (w.drewN m))
  clear hlxe hlye hl hn hgl
  go_enter Tryd.func53, Tryd.ntmps53
  go_wp2
  go_quiet ((go_at_call 51; exact Calls.quiet_of_same (hc.out _)))
  go_wp2
  go_ret
  exact ⟨rfl, (Grew.refl w).drewN _⟩

set_option maxHeartbeats 400000 in
theorem of_calls (n : Nat) (hn : n ≤ 64) (a : Option Addr) (c : Nat) (lab : List Int) (w : World) (hl : Ints w a lab) (hln : lab.length = n) :
    Calls Tryd.prog 38 #[.slice a n c] w fun e w' => ∃ a c P, e = .returned (.tuple #[.slice a (P.map (·.map Int.ofNat)).length c, .int .i64 0]) ∧ Rows w' a (P.map (·.map Int.ofNat)) ∧ IsPart (fun x => [lab[x]?.getD 0]) (· < n) P ∧ Below w.heap.size w w' := by
  have hb : Below w.heap.size w (w.alloc (.cells #[.slice a n c] 22)) := (Below.refl _ _).alloc (Nat.le_refl _) _
  have hl1 := hl.below hb
  have hbx : (w.alloc (.cells #[.slice a n c] 22)).cell? ⟨w.heap.size, 0, none⟩ = some (.slice a n c) := by
    have := cell_one_new w (.slice a n c) 22 0 _ rfl
    rw [add_zero_addr] at this; exact this
  have hok : CmpOk (w.alloc (.cells #[.slice a n c] 22)) 53 #[.pointer (some ⟨w.heap.size, 0, none⟩)] n (fun x y => cmpL [lab[x]?.getD 0] [lab[y]?.getD 0]) :=
    ⟨enters_of Tryd.func53 (by kernel_rfl) rfl, fun W hW x y hx hy => of1_calls W w.heap.size n lab a c (by rw [hW.cell (by simp)]; exact hbx) (hl1.below hW) hln x y hx hy⟩
  have hg := grouped_calls n (by omega) (fun x => [lab[x]?.getD 0]) 53 _ _ _ hok (fun x y _ _ => ⟨Iff.rfl, fun h => cmpL_zero h, fun h => by rw [h, cmpL_self]⟩)
  have H := Lib.hid (And.intro hg hb)
  clear hg hb hl1 hbx hok hl hln
  go_enter Tryd.func38, Tryd.ntmps38
  go_wp2_with (go_at_call 45; refine H.out.1.mono ?_; rintro e w1 ⟨a1, c1, P, rfl, hr, hp, hb1⟩; have H1 := Lib.hid (And.intro hr (And.intro hp hb1)); clear hr hp hb1)
  go_ret2
  exact ⟨a1, c1, P, by rw [List.length_map]; rfl, H1.out.1, H1.out.2.1, H.out.2.trans (H1.out.2.2.mono (by simp))⟩
end Go.Proofs.YtifkieopaoooeaaDoor
