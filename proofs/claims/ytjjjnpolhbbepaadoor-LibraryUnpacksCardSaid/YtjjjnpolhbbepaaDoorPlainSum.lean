/- The checksum tells one changed byte: plain. -/
set_option linter.unusedSimpArgs false
set_option linter.unusedVariables false
namespace Go.Proofs.YtjjjnpolhbbepaaDoor.Plain
def sumTo (h : Nat) (bs : List Nat) : Nat := bs.foldl (fun h b => (31 * h + b) % 4294967296) h
def sumB (bs : List Nat) : Nat := sumTo 7 bs
theorem sumTo_app (h : Nat) (l m : List Nat) : sumTo h (l ++ m) = sumTo (sumTo h l) m := by simp [sumTo]
theorem sumTo_lt {h : Nat} (hh : h < 4294967296) : ∀ l, sumTo h l < 4294967296
  | [] => hh
  | b :: l => sumTo_lt (Nat.mod_lt _ (by omega)) l
theorem step_inj {h h' b : Nat} (hh : h < 4294967296) (hh' : h' < 4294967296) (e : (31 * h + b) % 4294967296 = (31 * h' + b) % 4294967296) : h = h' := by omega
theorem sumTo_inj : ∀ (l : List Nat) {h h' : Nat}, h < 4294967296 → h' < 4294967296 → sumTo h l = sumTo h' l → h = h'
  | [], _, _, _, _, e => e
  | b :: l, h, h', h1, h2, e => step_inj h1 h2 (sumTo_inj l (Nat.mod_lt _ (by omega)) (Nat.mod_lt _ (by omega)) e)
theorem sum_changed {l m : List Nat} {b c : Nat} (hb : b < 256) (hc : c < 256) (hne : b ≠ c) : sumB (l ++ b :: m) ≠ sumB (l ++ c :: m) := by
  intro e
  unfold sumB at e
  rw [sumTo_app, sumTo_app] at e
  have h := sumTo_lt (h := 7) (by omega) l
  have := sumTo_inj m (Nat.mod_lt _ (by omega)) (Nat.mod_lt _ (by omega)) (show sumTo ((31 * sumTo 7 l + b) % 4294967296) m = sumTo ((31 * sumTo 7 l + c) % 4294967296) m from e)
  omega
/-- The four bytes of a number. -/
def four (n : Nat) : List Nat := [n / 16777216 % 256, n / 65536 % 256, n / 256 % 256, n % 256]
theorem four_inj {n m : Nat} (hn : n < 4294967296) (hm : m < 4294967296) (e : four n = four m) : n = m := by
  unfold four at e
  injection e with e1 e
  injection e with e2 e
  injection e with e3 e
  injection e with e4 _
  omega
end Go.Proofs.YtjjjnpolhbbepaaDoor.Plain
