/- Chains: the order of golden numbers as an order of integers. -/
import Derived.Test.YtfbcbfimhgaicaaGoldN
set_option linter.unusedSimpArgs false
set_option linter.unusedVariables false
namespace Go.Proofs.Ytfbcbfimhgaicaa
open Go.RowKit
/-- Numbers at which 204668310 a + 331160282 b has the sign of a + b t. -/
def bd (a : Int) : Prop := -100000 ≤ a ∧ a ≤ 100000
def vl (a b : Int) : Int := 204668310 * a + 331160282 * b
theorem vl_eq (a b : Int) : vl a b = 204668310 * a + 331160282 * b := rfl
theorem sq_ge1 {x y : Int} (h : y < x) : y + 1 ≤ x := h
/-- A fraction near the root of 5 that is too near for numbers as small as these. -/
theorem pos_lin {r s : Int} (hr : -400000 ≤ r ∧ r ≤ 400000) (hs : -400000 ≤ s ∧ s ≤ 400000) (h : pos r s) : 0 < 102334155 * r + 228826127 * s := by
  have sqs : ∀ t : Int, -400000 ≤ t ∧ t ≤ 400000 → 0 ≤ t * t ∧ t * t ≤ 160000000000 := fun t ht => by
    have h1 := sqnn t
    have h2 := prod_le t t 400000 ht ht
    omega
  have hss := sqs s hs
  have hrr := sqs r hr
  rcases h with ⟨h1, h2⟩ | ⟨h1, h2⟩
  · by_cases h0 : 0 ≤ s
    · omega
    · by_cases hq : 0 < 102334155 * r + 228826127 * s
      · exact hq
      · exfalso
        have e1 : 102334155 * r ≤ 228826127 * (-s) := by omega
        have e2 : (102334155 * r) * (102334155 * r) ≤ (228826127 * (-s)) * (228826127 * (-s)) := Int.mul_le_mul e1 e1 (by omega) (by omega)
        have e3 : (102334155 * r) * (102334155 * r) = 10472279279564025 * (r * r) := by grind
        have e4 : (228826127 * (-s)) * (228826127 * (-s)) = 52361396397820129 * (s * s) := by grind
        rw [e3, e4] at e2
        omega
  · by_cases h0 : 0 ≤ r
    · omega
    · by_cases hq : 0 < 102334155 * r + 228826127 * s
      · exact hq
      · exfalso
        have e1 : 228826127 * s ≤ 102334155 * (-r) := by omega
        have e2 : (228826127 * s) * (228826127 * s) ≤ (102334155 * (-r)) * (102334155 * (-r)) := Int.mul_le_mul e1 e1 (by omega) (by omega)
        have e3 : (102334155 * (-r)) * (102334155 * (-r)) = 10472279279564025 * (r * r) := by grind
        have e4 : (228826127 * s) * (228826127 * s) = 52361396397820129 * (s * s) := by grind
        rw [e3, e4] at e2
        omega
set_option maxHeartbeats 1000000 in
theorem sgn_lin {a b : Int} (ha : bd a) (hb : bd b) : (sgn a b = 1 ↔ 0 < vl a b) ∧ (sgn a b = 0 ↔ vl a b = 0) ∧ (sgn a b = -1 ↔ vl a b < 0) := by
  obtain ⟨a1, a2⟩ := ha
  obtain ⟨b1, b2⟩ := hb
  have hz := @sgn_zero a b
  have hp := @sgn_pos a b
  have hn := @sgn_pos (-a) (-b)
  have ho := sgn_opp a b
  have hr := sgn_range a b
  have k1 : sgn a b = 1 → 0 < vl a b := fun h => by
    have := pos_lin (r := 2 * a + b) (s := b) (by omega) (by omega) (hp.1 h)
    unfold vl; omega
  have k2 : sgn a b = -1 → vl a b < 0 := fun h => by
    have := pos_lin (r := 2 * -a + -b) (s := -b) (by omega) (by omega) (hn.1 (by omega))
    unfold vl; omega
  have k3 : sgn a b = 0 → vl a b = 0 := fun h => by
    have := hz.1 h
    unfold vl; omega
  refine ⟨⟨k1, fun h => ?_⟩, ⟨k3, fun h => ?_⟩, ⟨k2, fun h => ?_⟩⟩
  · rcases hr with q | q | q
    · have := k3 q; omega
    · exact q
    · have := k2 q; omega
  · rcases hr with q | q | q
    · exact q
    · have := k1 q; omega
    · have := k2 q; omega
  · rcases hr with q | q | q
    · have := k3 q; omega
    · have := k1 q; omega
    · exact q
theorem vl_sub (a b c d : Int) : vl (a - c) (b - d) = vl a b - vl c d := by
  rw [vl_eq, vl_eq, vl_eq, Int.mul_sub, Int.mul_sub]; omega
theorem vl_inj {a b c d : Int} (ha : bd (a - c)) (hb : bd (b - d)) (h : vl a b = vl c d) : a = c ∧ b = d := by
  have e : vl (a - c) (b - d) = 0 := by rw [vl_sub, h, Int.sub_self]
  have h3 := sgn_zero.1 ((sgn_lin ha hb).2.1.2 e)
  clear ha hb h e
  omega
end Go.Proofs.Ytfbcbfimhgaicaa
