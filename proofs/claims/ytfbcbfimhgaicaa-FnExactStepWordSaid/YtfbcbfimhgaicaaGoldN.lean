/- Plain laws of the golden ring: products of signs, exact quotients, powers. -/
import Derived.Test.YtfbcbfimhgaicaaGoldP
import Derived.Test.YtfbcbfimhgaicaaGoldQ
set_option linter.unusedSimpArgs false
set_option linter.unusedVariables false
namespace Go.Proofs.Ytfbcbfimhgaicaa
open Go.RowKit
theorem sq_lt {x y : Int} (hy : 0 < y) (h : x * x < y * y) : -y < x ∧ x < y := by
  constructor
  · by_cases hx : -y < x
    · exact hx
    · exfalso
      have : y * y ≤ x * x := by
        have h1 : y ≤ -x := by omega
        have := Int.mul_le_mul h1 h1 (by omega) (by omega)
        rw [Int.neg_mul_neg] at this; exact this
      omega
  · by_cases hx : x < y
    · exact hx
    · exfalso
      have h1 : y ≤ x := by omega
      have := Int.mul_le_mul h1 h1 (by omega) (by omega)
      omega
/-- r + s root 5 is positive. -/
def pos (r s : Int) : Prop := (5 * (s * s) < r * r ∧ 0 < r) ∨ (r * r < 5 * (s * s) ∧ 0 < s)
theorem lt_of_sq {x y : Int} (hy : 0 < y) (h : x * x < y * y) : 0 < y + x := by have := sq_lt hy h; omega
theorem sqnn (x : Int) : 0 ≤ x * x := by
  rcases Int.le_total 0 x with h | h
  · exact Int.mul_nonneg h h
  · have := Int.mul_nonneg (show 0 ≤ -x by omega) (show 0 ≤ -x by omega); rw [Int.neg_mul_neg] at this; exact this
theorem mul_lt {a b c d : Int} (ha : 0 ≤ a) (hc : 0 ≤ c) (h1 : a < b) (h2 : c < d) : a * c < b * d := by
  have e1 : a * c ≤ a * d := Int.mul_le_mul_of_nonneg_left (by omega) ha
  have e2 : a * d < b * d := Int.mul_lt_mul_of_pos_right h1 (by omega)
  omega
theorem pos_mul {r s p q : Int} (h1 : pos r s) (h2 : pos p q) : pos (r * p + 5 * (s * q)) (r * q + s * p) := by
  have hN : (r * p + 5 * (s * q)) * (r * p + 5 * (s * q)) - 5 * ((r * q + s * p) * (r * q + s * p)) = (r * r - 5 * (s * s)) * (p * p - 5 * (q * q)) := by grind
  have hr := sqnn r
  have hs := sqnn s
  have hp := sqnn p
  have hq := sqnn q
  rcases h1 with ⟨a1, a2⟩ | ⟨a1, a2⟩ <;> rcases h2 with ⟨b1, b2⟩ | ⟨b1, b2⟩
  · left
    have hm := Int.mul_pos (show 0 < r * r - 5 * (s * s) by omega) (show 0 < p * p - 5 * (q * q) by omega)
    refine ⟨by omega, lt_of_sq (Int.mul_pos a2 b2) ?_⟩
    have := mul_lt (by omega) (by omega) a1 b1
    grind
  · right
    have hm := Int.mul_pos (show 0 < r * r - 5 * (s * s) by omega) (show 0 < 5 * (q * q) - p * p by omega)
    have hm2 : (r * r - 5 * (s * s)) * (p * p - 5 * (q * q)) = -((r * r - 5 * (s * s)) * (5 * (q * q) - p * p)) := by grind
    refine ⟨by omega, lt_of_sq (Int.mul_pos a2 b2) ?_⟩
    have := mul_lt (by omega) (by omega) a1 b1
    grind
  · right
    have hm := Int.mul_pos (show 0 < 5 * (s * s) - r * r by omega) (show 0 < p * p - 5 * (q * q) by omega)
    have hm2 : (r * r - 5 * (s * s)) * (p * p - 5 * (q * q)) = -((5 * (s * s) - r * r) * (p * p - 5 * (q * q))) := by grind
    refine ⟨by omega, ?_⟩
    rw [Int.add_comm]
    refine lt_of_sq (Int.mul_pos a2 b2) ?_
    have := mul_lt (by omega) (by omega) a1 b1
    grind
  · left
    have hm := Int.mul_pos (show 0 < 5 * (s * s) - r * r by omega) (show 0 < 5 * (q * q) - p * p by omega)
    have hm2 : (r * r - 5 * (s * s)) * (p * p - 5 * (q * q)) = ((5 * (s * s) - r * r) * (5 * (q * q) - p * p)) := by grind
    refine ⟨by omega, ?_⟩
    rw [Int.add_comm]
    refine lt_of_sq (Int.mul_pos (by omega) (Int.mul_pos a2 b2)) ?_
    have := mul_lt (by omega) (by omega) a1 b1
    grind

theorem pos_not {r s : Int} (h1 : pos r s) (h2 : pos (-r) (-s)) : False := by
  unfold pos at *
  rw [Int.neg_mul_neg, Int.neg_mul_neg] at h2
  omega
theorem pos_zero : ¬ pos 0 0 := by unfold pos; omega

theorem sgn_pos {a b : Int} : sgn a b = 1 ↔ pos (2 * a + b) b := by
  have hi := sgn_irr a b
  rw [five_sq] at hi
  unfold sgn pos
  rw [five_sq]
  obtain ⟨r, hr⟩ : ∃ r, 2 * a + b = r := ⟨_, rfl⟩
  rw [hr] at hi ⊢
  by_cases h0 : r = 0 ∧ b = 0
  · rw [if_pos h0, h0.1, h0.2]; simp
  · rw [if_neg h0]
    by_cases hr : 0 < r
    · have hrr := Int.mul_pos hr hr
      by_cases hs : 0 ≤ b
      · rw [if_pos (by omega)]
        simp only [true_iff]
        by_cases hq : 5 * (b * b) < r * r
        · left; exact ⟨hq, hr⟩
        · right
          refine ⟨?_, ?_⟩
          · have := hi; omega
          · by_cases hb : b = 0
            · subst hb; exfalso; omega
            · omega
      · by_cases hq : 5 * (b * b) < r * r
        · rw [if_pos (by omega)]; simp; left; exact ⟨hq, hr⟩
        · rw [if_neg (by omega)]; simp; omega
    · by_cases hs : 0 < b
      · by_cases hq : r * r ≤ 5 * (b * b)
        · rw [if_pos (by omega)]; simp; right; have := hi; omega
        · rw [if_neg]
          · simp; omega
          · intro h; have hb2 := Int.mul_pos hs hs; rcases h with h | h | h
            · obtain rfl : r = 0 := by omega
              omega
            · omega
            · omega
      · rw [if_neg (by omega)]; simp; omega
theorem sgn_zero {a b : Int} : sgn a b = 0 ↔ a = 0 ∧ b = 0 := by
  unfold sgn
  by_cases h0 : 2 * a + b = 0 ∧ b = 0
  · rw [if_pos h0]; simp; omega
  · rw [if_neg h0]; split <;> simp <;> omega
theorem sgn_opp (a b : Int) : sgn (-a) (-b) = -sgn a b := by
  have hz := @sgn_zero a b
  have hz' := @sgn_zero (-a) (-b)
  have hp := @sgn_pos a b
  have hp' := @sgn_pos (-a) (-b)
  rw [show 2 * -a + -b = -(2 * a + b) by omega] at hp'
  have hn := @pos_not (2 * a + b) b
  have h1 := sgn_range a b
  have h2 := sgn_range (-a) (-b)
  have hi := sgn_irr a b
  rw [five_sq] at hi
  have hall : pos (2 * a + b) b ∨ pos (-(2 * a + b)) (-b) ∨ (a = 0 ∧ b = 0) := by
    unfold pos
    rw [Int.neg_mul_neg, Int.neg_mul_neg]
    obtain ⟨r, hr⟩ : ∃ r, 2 * a + b = r := ⟨_, rfl⟩
    rw [hr] at hi ⊢
    rcases Int.lt_trichotomy (5 * (b * b)) (r * r) with h | h | h
    · by_cases hq : r = 0
      · subst hq; have := sqnn b; omega
      · omega
    · have := hi h.symm; omega
    · by_cases hq : b = 0
      · subst hq; have := sqnn r; omega
      · omega
  grind
/-- The sign of a product is the product of the signs. -/
theorem sgn_mul (a b c d : Int) : sgn (a * c + b * d) (a * d + b * c + b * d) = sgn a b * sgn c d := by
  have key : ∀ a b c d : Int, sgn a b = 1 → sgn c d = 1 → sgn (a * c + b * d) (a * d + b * c + b * d) = 1 := by
    intro a b c d h1 h2
    have h := pos_mul (sgn_pos.1 h1) (sgn_pos.1 h2)
    refine sgn_pos.2 ?_
    have e1 : (2 * a + b) * (2 * c + d) + 5 * (b * d) = 2 * (2 * (a * c + b * d) + (a * d + b * c + b * d)) := by grind
    have e2 : (2 * a + b) * d + b * (2 * c + d) = 2 * (a * d + b * c + b * d) := by grind
    rw [e1, e2] at h
    have q1 : ∀ R S : Int, pos (2 * R) (2 * S) → pos R S := by
      intro R S h
      unfold pos at *
      rw [show 2 * R * (2 * R) = 4 * (R * R) by grind, show 2 * S * (2 * S) = 4 * (S * S) by grind] at h
      omega
    exact q1 _ _ h
  rcases sgn_range a b with h | h | h
  · obtain ⟨rfl, rfl⟩ := sgn_zero.1 h
    simp [h]
  · rcases sgn_range c d with k | k | k
    · obtain ⟨rfl, rfl⟩ := sgn_zero.1 k
      simp [k]
    · rw [h, k]; exact key _ _ _ _ h k
    · have := key a b (-c) (-d) h (by rw [sgn_opp, k]; rfl)
      have e := sgn_opp (a * c + b * d) (a * d + b * c + b * d)
      rw [show -(a * c + b * d) = a * -c + b * -d by grind, show -(a * d + b * c + b * d) = a * -d + b * -c + b * -d by grind, this] at e
      rw [h, k]; omega
  · rcases sgn_range c d with k | k | k
    · obtain ⟨rfl, rfl⟩ := sgn_zero.1 k
      simp [k]
    · have := key (-a) (-b) c d (by rw [sgn_opp, h]; rfl) k
      have e := sgn_opp (a * c + b * d) (a * d + b * c + b * d)
      rw [show -(a * c + b * d) = -a * c + -b * d by grind, show -(a * d + b * c + b * d) = -a * d + -b * c + -b * d by grind, this] at e
      rw [h, k]; omega
    · have := key (-a) (-b) (-c) (-d) (by rw [sgn_opp, h]; rfl) (by rw [sgn_opp, k]; rfl)
      rw [show -a * -c + -b * -d = a * c + b * d by grind, show -a * -d + -b * -c + -b * -d = a * d + b * c + b * d by grind] at this
      rw [this, h, k]; rfl

/-- Numbers that are drawn: from -20 to 20. -/
def dr (a : Int) : Prop := -20 ≤ a ∧ a ≤ 20
theorem dr_prod {p q : Int} (hp : dr p) (hq : dr q) : -400 ≤ p * q ∧ p * q ≤ 400 := prod_le p q 20 hp hq
theorem quo1 (a b c d : Int) : (a * c + b * d) * (c + d) + (a * d + b * c + b * d) * (-d) = a * (c * c + c * d - d * d) := by grind
theorem quo2 (a b c d : Int) : (a * c + b * d) * (-d) + (a * d + b * c + b * d) * (c + d) + (a * d + b * c + b * d) * (-d) = b * (c * c + c * d - d * d) := by grind
theorem norm_mul (a b c d : Int) : (a*c+b*d)*(a*c+b*d) + (a*c+b*d)*(a*d+b*c+b*d) - (a*d+b*c+b*d)*(a*d+b*c+b*d) = (a*a+a*b-b*b)*(c*c+c*d-d*d) := by grind
theorem pow_fin : ∀ k : Fin 25, mulA (pwN ((k.val : Int) - 12)).1 (pwN ((k.val : Int) - 12)).2 (pwN (-((k.val : Int) - 12))).1 (pwN (-((k.val : Int) - 12))).2 = 1 ∧ mulB (pwN ((k.val : Int) - 12)).1 (pwN ((k.val : Int) - 12)).2 (pwN (-((k.val : Int) - 12))).1 (pwN (-((k.val : Int) - 12))).2 = 0 ∧ (normI (pwN ((k.val : Int) - 12)).1 (pwN ((k.val : Int) - 12)).2 = 1 ∨ normI (pwN ((k.val : Int) - 12)).1 (pwN ((k.val : Int) - 12)).2 = -1) ∧ sgn (pwN ((k.val : Int) - 12)).1 (pwN ((k.val : Int) - 12)).2 = 1 := by decide +kernel
theorem pow_all (n : Int) (h : -12 ≤ n ∧ n ≤ 12) : mulA (pwN n).1 (pwN n).2 (pwN (-n)).1 (pwN (-n)).2 = 1 ∧ mulB (pwN n).1 (pwN n).2 (pwN (-n)).1 (pwN (-n)).2 = 0 ∧ (normI (pwN n).1 (pwN n).2 = 1 ∨ normI (pwN n).1 (pwN n).2 = -1) ∧ sgn (pwN n).1 (pwN n).2 = 1 := by
  have := pow_fin ⟨(n + 12).toNat, by omega⟩
  simp only at this
  rw [show (((n + 12).toNat : Nat) : Int) - 12 = n by omega] at this
  exact this
end Go.Proofs.Ytfbcbfimhgaicaa
