/- The reference's labels of a partition. -/
import Derived.Test.YtlnikgcanimggaaCheck
import Derived.Test.YtlnikgcanimggaaCollect
import Derived.Test.YtlnikgcanimggaaPlainLabels
set_option linter.unusedSimpArgs false
set_option linter.unusedVariables false
namespace Go.Proofs.Ytlnikgcanimggaa
open Go.RowKit Plain

set_option maxHeartbeats 1000000 in
theorem labelsR_calls (n : Nat) (a : Option Addr) (c : Nat) (l : List (List Int)) (w : World) (ha : Rows w a l) (hn : n ≤ 1000000) (hin : InRange n l) :
    Calls Try.prog 65 #[.int .i64 n, .slice a l.length c] w fun e w' => ∃ v, e = .returned v ∧ Own w' w.heap.size v 3 (ints (labelsL n l)) ∧ Below w.heap.size w w' := by
  have hA := Lib.hid ha
  have hml := ha.len
  have Hin := Lib.hid hin
  clear ha hin
  obtain ⟨i3, hi3, hz3, hs3, hb3⟩ := info_parts Try.info3
  have I3 := Lib.hid (And.intro hi3 (And.intro hz3 (And.intro hs3 hb3)))
  clear hi3 hz3 hs3 hb3
  obtain ⟨m, hm⟩ : ∃ m, m = l.length := ⟨_, rfl⟩
  rw [← hm] at hml ⊢
  have Hm := Lib.hid hm
  clear hm
  go_enter Try.func65, Try.ntmps65
  go_wp2_with (at_make; refine mk1 rfl _ _ 29 3 rfl i3 (.int .i64 0) 8 Try.underlying29 I3.out.1 I3.out.2.1 I3.out.2.2.1 I3.out.2.2.2 rfl (by omega) w.heap.size n rfl rfl (by omega) (Nat.le_refl _) ?_; intro w1 hd hg hz1; have H1 := Lib.hid (And.intro hd hg); clear hd hg hz1)
  have hbl : Below w.heap.size w w1 := (Below.refl _ _).grown H1.out.2 (Nat.le_refl _) (fun k hk => by cases hk)
  have hd' := H1.out.1
  rw [ints_zero] at hd'
  have H2 := Lib.hid (And.intro hd' hbl)
  clear hd' hbl H1
  obtain ⟨D, hD⟩ : ∃ D, D = w.heap.size := ⟨_, rfl⟩
  rw [← hD] at H2 ⊢
  have HD := Lib.hid hD
  clear hD
  go_loopw [6] (fun i wr => ∃ (k : Nat) (cur : List Int), k ≤ m ∧ i = .int .i64 k ∧ cur.length = n ∧ Own wr D (.slice (some ⟨D, 0, none⟩) n n) 3 (ints cur) ∧ Below D w wr ∧ labelsL n l = putCells cur k (l.drop k)) (fun i _ => m - (intOf i).toNat)
  case atStart => exact ⟨0, List.replicate n 0, by omega, rfl, by simp, H2.out.1, H2.out.2, rfl⟩
  case round =>
    clear H2
    obtain ⟨k, cur, hk, rfl, hcl, ho, hbl, he⟩ := hrel
    have hAr : Rows wr a l := hA.out.below (by rw [← HD.out]; exact hbl)
    obtain ⟨wo, rfl⟩ : ∃ wo : World, wo = wr := ⟨_, rfl⟩
    by_cases hlt : k < m
    · obtain ⟨g, o, b, cc, rfl, hgb, hcc, hii⟩ := hAr.at_ (k := k) (by rw [← Hm.out]; exact hlt)
      obtain ⟨x, hx⟩ : ∃ x, l[k]?.getD [] = x := ⟨_, rfl⟩
      rw [hx] at hcc hii
      have hxl := hii.len
      obtain ⟨L, hL⟩ : ∃ L, L = x.length := ⟨_, rfl⟩
      rw [← hL] at hcc hxl
      have H := Lib.hid (And.intro hx (And.intro hL (And.intro hcl (And.intro ho (And.intro hbl (And.intro he hii))))))
      clear hx hL hcl ho hbl he hii hAr
      go_wp2
      go_loopw [7] (fun j wr => ∃ (j' : Nat) (cur' : List Int), j' ≤ L ∧ j = .int .i64 j' ∧ cur'.length = n ∧ Own wr D (.slice (some ⟨D, 0, none⟩) n n) 3 (ints cur') ∧ wo.grownBy wr (some D) ∧ putCell cur k x = putCell cur' k (x.drop j')) (fun j _ => L - (intOf j).toNat)
      case atStart => exact ⟨0, cur, by omega, rfl, H.out.2.2.1, H.out.2.2.2.1, World.grownBy.refl _ _, rfl⟩
      case round =>
        obtain ⟨j, cur', hj, rfl, hcl2, ho2, hg2, he2⟩ := hrel
        have hDk : D ≤ wo.heap.size := by have := H.out.2.2.2.2.1.size; have := HD.out; omega
        have hbr : Below D w wr := H.out.2.2.2.2.1.grown hg2 hDk (fun k hk => by cases hk; exact Nat.le_refl _)
        have hA2 : Rows wr (some ⟨g, o, none⟩) l := hA.out.below (by rw [← HD.out]; exact hbr)
        obtain ⟨g2, o2, b2, cc2, e2, _, hcc2, hii2⟩ := hA2.at_ (k := k) (by rw [← Hm.out]; exact hlt)
        cases e2
        rw [H.out.1] at hcc2 hii2
        have hgo : g < D := by
          obtain ⟨g3, o3, b3, c3, e3, hg3, _, _⟩ := hA.out.at_ (k := k) (by rw [← Hm.out]; exact hlt)
          cases e3; rw [HD.out]; exact hg3
        have hsame : wr.cell? ⟨g, o + k, none⟩ = wo.cell? ⟨g, o + k, none⟩ := World.cell?_of_block (hg2.block g hgb (by simp; omega))
        rw [hsame, hcc, ← H.out.2.1] at hcc2
        cases hcc2
        have hcc3 : wr.cell? ⟨g, o + k, none⟩ = some (.slice b L cc) := hsame.trans hcc
        have H3 := Lib.hid (And.intro hcl2 (And.intro ho2 (And.intro hg2 (And.intro he2 hbr))))
        clear hcl2 ho2 hg2 he2 hA2 hsame hDk hbr
        by_cases hjl : j < L
        · obtain ⟨gb, ob, rfl, _, hcp⟩ := hii2.at_ (k := j) (by rw [← H.out.2.1]; exact hjl)
          obtain ⟨p, hp, hpn⟩ := Hin.out.at_ (k := k) (j := j) (by rw [← Hm.out]; exact hlt) (by rw [H.out.1, ← H.out.2.1]; exact hjl)
          rw [H.out.1] at hp
          rw [hp] at hcp
          have hod := H3.out.2.1.cell p (by rw [ints_len, H3.out.1]; exact hpn)
          rw [ints_get (by rw [H3.out.1]; exact hpn)] at hod
          have hof := H3.out.2.1.frozen p
          have Hp := Lib.hid hp
          clear hp hii2
          go_wp2
          refine ⟨⟨j + 1, cur'.set p k, by omega, by go_num, by rw [List.length_set]; exact H3.out.1, ?_, ?_, ?_⟩, by simp [intOf]; omega⟩
          · rw [← ints_set]; exact H3.out.2.1.put p _
          · exact H3.out.2.2.1.trans (grown_put p _)
          · rw [H3.out.2.2.2.1, putCell_next (by rw [← H.out.2.1]; exact hjl), Hp.out]; simp
        · clear hii2
          go_wp2
          refine ⟨⟨k + 1, cur', by omega, by go_num, H3.out.1, H3.out.2.1, H3.out.2.2.2.2, ?_⟩, by simp [intOf]; omega⟩
          rw [H.out.2.2.2.2.2.1, putCells_next (by rw [← Hm.out]; exact hlt), H.out.1, H3.out.2.2.2.1, putCell_end (by rw [← H.out.2.1]; omega)]
    · have H := Lib.hid (And.intro hcl (And.intro ho (And.intro hbl he)))
      clear hcl ho hbl he hAr
      go_wp2
      go_ret
      have hfin : labelsL n l = cur := by rw [H.out.2.2.2, putCells_end (by rw [← Hm.out]; omega)]
      refine ⟨_, rfl, ?_, by rw [← HD.out]; exact H.out.2.2.1⟩
      rw [hfin, ← HD.out]
      exact H.out.2.1
end Go.Proofs.Ytlnikgcanimggaa
