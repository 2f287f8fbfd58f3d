/- The walks of powers, and the law on them. -/
import Derived.Test.YtfbcbfimhgaicaaGoldF
set_option linter.unusedSimpArgs false
set_option linter.unusedVariables false
namespace Go.Proofs.Ytfbcbfimhgaicaa
open Go.RowKit
/-- The powers of t (or of its inverse): A and B of the k-th one. -/
def pw (neg : Bool) : Nat → Int × Int
  | 0 => (1, 0)
  | k + 1 => if neg then ((pw neg k).2 - (pw neg k).1, (pw neg k).1) else ((pw neg k).2, (pw neg k).1 + (pw neg k).2)
theorem pw_fin : ∀ (neg : Bool) (k : Fin 26), (-200000 ≤ (pw neg k.val).1 ∧ (pw neg k.val).1 ≤ 200000) ∧ (-200000 ≤ (pw neg k.val).2 ∧ (pw neg k.val).2 ≤ 200000) := by decide +kernel
theorem pw_small (neg : Bool) (k : Nat) (h : k ≤ 25) : (-200000 ≤ (pw neg k).1 ∧ (pw neg k).1 ≤ 200000) ∧ (-200000 ≤ (pw neg k).2 ∧ (pw neg k).2 ≤ 200000) := pw_fin neg ⟨k, by omega⟩
theorem pw_pos (k : Nat) : pw false (k + 1) = ((pw false k).2, (pw false k).1 + (pw false k).2) := by simp [pw]
theorem pw_neg (k : Nat) : pw true (k + 1) = ((pw true k).2 - (pw true k).1, (pw true k).1) := by simp [pw]
theorem mul_pos1 (a b : Int) (ha : -200000 ≤ a ∧ a ≤ 200000) (hb : -200000 ≤ b ∧ b ≤ 200000) : mulA a b 0 1 = b ∧ mulB a b 0 1 = a + b := by
  unfold mulA mulB
  simp only [Int.mul_zero, Int.mul_one]
  rw [wrap_in 0 (by omega), wrap_in b (by omega), wrap_in a (by omega), wrap_in (0 + b) (by omega), wrap_in (a + 0) (by omega), wrap_in (a + 0 + b) (by omega)]
  omega
theorem mul_neg1 (a b : Int) (ha : -200000 ≤ a ∧ a ≤ 200000) (hb : -200000 ≤ b ∧ b ≤ 200000) : mulA a b (-1) 1 = b - a ∧ mulB a b (-1) 1 = a := by
  unfold mulA mulB
  simp only [Int.mul_neg, Int.mul_one]
  rw [wrap_in (-a) (by omega), wrap_in b (by omega), wrap_in a (by omega), wrap_in (-a + b) (by omega), wrap_in (-b) (by omega), wrap_in (a + -b) (by omega), wrap_in (a + -b + b) (by omega)]
  omega
def pwN (n : Int) : Int × Int := pw (decide (n < 0)) n.natAbs

/-! ### The program's powers: products -/
/-! ### Every argument, and the law -/
theorem pwN_pos (n : Int) (h : 0 ≤ n) : pwN n = pw false n.natAbs := by unfold pwN; rw [decide_eq_false (by omega)]
theorem pwN_neg (n : Int) (h : n < 0) : pwN n = pw true n.natAbs := by unfold pwN; rw [decide_eq_true h]
end Go.Proofs.Ytfbcbfimhgaicaa
