/- Plain arithmetic of the golden ring: the sign of A + B t, without the program. -/
import Derived.Test.YtfbcbfimhgaicaaBase
set_option linter.unusedSimpArgs false
set_option linter.unusedVariables false
namespace Go.Proofs.Ytfbcbfimhgaicaa

/-! ### The root of 5 is no ratio -/
theorem sq_mod5 (p : Int) (h : p * p % 5 = 0) : p % 5 = 0 := by
  have h5 : p % 5 = 0 ∨ p % 5 = 1 ∨ p % 5 = 2 ∨ p % 5 = 3 ∨ p % 5 = 4 := by omega
  rw [Int.mul_emod] at h
  rcases h5 with e | e | e | e | e <;> rw [e] at h <;> first | exact e | (exfalso; revert h; decide)
theorem irr_nat : ∀ (n : Nat) (p q : Int), q.natAbs ≤ n → p * p = 5 * (q * q) → q = 0
  | 0, p, q, hn, _ => by omega
  | n + 1, p, q, hn, h => by
    by_cases hq : q = 0
    · exact hq
    · have hp : p % 5 = 0 := sq_mod5 p (by rw [h]; omega)
      obtain ⟨r, rfl⟩ : ∃ r, p = 5 * r := ⟨p / 5, by omega⟩
      have h1 : q * q = 5 * (r * r) := by
        have e : 5 * r * (5 * r) = 5 * (5 * (r * r)) := by rw [Int.mul_assoc, Int.mul_left_comm r 5 r]
        rw [e] at h; omega
      have hq5 : q % 5 = 0 := sq_mod5 q (by rw [h1]; omega)
      obtain ⟨s, rfl⟩ : ∃ s, q = 5 * s := ⟨q / 5, by omega⟩
      have h2 : r * r = 5 * (s * s) := by
        have e : 5 * s * (5 * s) = 5 * (5 * (s * s)) := by rw [Int.mul_assoc, Int.mul_left_comm s 5 s]
        rw [e] at h1; omega
      have := irr_nat n r s (by omega) h2
      omega
theorem irr (p q : Int) (h : p * p = 5 * (q * q)) : q = 0 ∧ p = 0 := by
  have hq := irr_nat q.natAbs p q (Nat.le_refl _) h
  subst hq
  refine ⟨rfl, ?_⟩
  have : p * p = 0 := by rw [h]; rfl
  rcases Int.mul_eq_zero.1 this with h | h <;> exact h

/-! ### The sign -/
/-- The sign of A + B t: that of p + q r, with p = 2 A + B, q = B and r the root of 5. -/
def sgn (a b : Int) : Int :=
  if 2 * a + b = 0 ∧ b = 0 then 0
  else if (0 ≤ 2 * a + b ∧ 0 ≤ b) ∨ (0 < 2 * a + b ∧ 5 * b * b < (2 * a + b) * (2 * a + b)) ∨ (0 < b ∧ (2 * a + b) * (2 * a + b) ≤ 5 * b * b) then 1 else -1
/-- Numbers whose squares an int holds with room. -/
def mid (a : Int) : Prop := -100000000 ≤ a ∧ a ≤ 100000000
theorem sq_nonneg (p : Int) : 0 ≤ p * p := by
  rcases Int.le_total 0 p with h | h
  · exact Int.mul_nonneg h h
  · exact Int.mul_nonneg_of_nonpos_of_nonpos h h
theorem sq_le (p m : Int) (h : -m ≤ p ∧ p ≤ m) : p * p ≤ m * m := by
  have h1 : 0 ≤ (m - p) * (m + p) := Int.mul_nonneg (by omega) (by omega)
  have e : (m - p) * (m + p) = m * m - p * p := by rw [Int.sub_mul, Int.mul_add, Int.mul_add, Int.mul_comm p m]; omega
  omega
theorem five_sq (b : Int) : 5 * b * b = 5 * (b * b) := by rw [Int.mul_assoc]
theorem sgn_bounds (a b : Int) (ha : -100000000 ≤ a ∧ a ≤ 100000000) (hb : -100000000 ≤ b ∧ b ≤ 100000000) :
    (0 ≤ (2 * a + b) * (2 * a + b) ∧ (2 * a + b) * (2 * a + b) ≤ 90000000000000000) ∧ (0 ≤ 5 * b * b ∧ 5 * b * b ≤ 50000000000000000) := by
  have h1 := sq_nonneg (2 * a + b)
  have h2 := sq_le (2 * a + b) 300000000 (by omega)
  have h3 := sq_nonneg b
  have h4 := sq_le b 100000000 (by omega)
  rw [five_sq]
  omega
theorem sgn_irr (a b : Int) (h : (2 * a + b) * (2 * a + b) = 5 * b * b) : b = 0 ∧ 2 * a + b = 0 := by
  rw [five_sq] at h; exact irr _ _ h

/-! ### The sign is monotone in A; the floor -/
/-- Positive or zero. -/
def geS (a b : Int) : Prop := (0 ≤ 2 * a + b ∧ 0 ≤ b) ∨ (0 ≤ 2 * a + b ∧ 5 * b * b ≤ (2 * a + b) * (2 * a + b)) ∨ (0 ≤ b ∧ (2 * a + b) * (2 * a + b) ≤ 5 * b * b)
theorem sgn_range (a b : Int) : sgn a b = 0 ∨ sgn a b = 1 ∨ sgn a b = -1 := by unfold sgn; (repeat' split) <;> simp
theorem sq_pos (p : Int) : p = 0 ∨ 1 ≤ p * p := by
  rcases Int.lt_trichotomy p 0 with h | h | h
  · right; have := Int.mul_pos_of_neg_of_neg h h; omega
  · exact Or.inl h
  · right; have := Int.mul_pos h h; omega
theorem sgn_ge (a b : Int) : 0 ≤ sgn a b ↔ geS a b := by
  have hi := sgn_irr a b
  have h1 := sq_nonneg (2 * a + b)
  have h2 := sq_nonneg b
  have h3 := five_sq b
  have h4 : b = 0 ∨ 1 ≤ b * b := sq_pos b
  have h5 : 2 * a + b = 0 ∨ 1 ≤ (2 * a + b) * (2 * a + b) := sq_pos _
  have h6 : 2 * a + b = 0 → (2 * a + b) * (2 * a + b) = 0 := fun h => by rw [h]; rfl
  have h7 : b = 0 → b * b = 0 := fun h => by rw [h]; rfl
  unfold sgn geS
  by_cases h0 : 2 * a + b = 0 ∧ b = 0
  · obtain ⟨h, rfl⟩ := h0
    rw [if_pos ⟨h, rfl⟩]
    simp [h]
  · rw [if_neg h0]
    by_cases hp : 0 ≤ 2 * a + b <;> by_cases hq : 0 ≤ b
    · rw [if_pos (Or.inl ⟨hp, hq⟩)]; simp [hp, hq]
    · split <;> omega
    · split <;> omega
    · split <;> omega
theorem sq_mono {p q : Int} (hp : 0 ≤ p) (h : p ≤ q) : p * p ≤ q * q := Int.mul_le_mul h h hp (by omega)
theorem sq_anti {p q : Int} (hq : q ≤ 0) (h : p ≤ q) : q * q ≤ p * p := by
  have := sq_mono (p := -q) (q := -p) (by omega) (by omega)
  rwa [Int.neg_mul_neg, Int.neg_mul_neg] at this
theorem geS_mono {a a' b : Int} (h : geS a b) (ha : a ≤ a') : geS a' b := by
  unfold geS at *
  by_cases hp : 0 ≤ 2 * a + b
  · have := sq_mono hp (show 2 * a + b ≤ 2 * a' + b by omega)
    omega
  · by_cases hp' : 0 ≤ 2 * a' + b
    · by_cases hb : 0 ≤ b
      · exact Or.inl ⟨hp', hb⟩
      · omega
    · have := sq_anti (show 2 * a' + b ≤ 0 by omega) (show 2 * a + b ≤ 2 * a' + b by omega)
      omega
theorem sgn_mono {a a' b : Int} (h : 0 ≤ sgn a b) (ha : a ≤ a') : 0 ≤ sgn a' b := (sgn_ge a' b).2 (geS_mono ((sgn_ge a b).1 h) ha)

/-- n is the greatest integer that is not greater than a + b t. -/
def IsFloor (a b n : Int) : Prop := 0 ≤ sgn (a - n) b ∧ ¬ 0 ≤ sgn (a - (n + 1)) b
theorem floor_unique {a b n m : Int} (h1 : IsFloor a b n) (h2 : IsFloor a b m) : n = m := by
  rcases Int.lt_trichotomy n m with h | h | h
  · exact absurd (sgn_mono h2.1 (show a - m ≤ a - (n + 1) by omega)) h1.2
  · exact h
  · exact absurd (sgn_mono h1.1 (show a - n ≤ a - (m + 1) by omega)) h2.2
theorem geS_low (a b : Int) (ha : -1000000 ≤ a) (hb : -1000000 ≤ b ∧ b ≤ 1000000) (k : Int) (hk : 4000000 ≤ k) : geS (a + k) b := by
  unfold geS
  by_cases h : 0 ≤ b
  · exact Or.inl ⟨by omega, h⟩
  · refine Or.inr (Or.inl ⟨by omega, ?_⟩)
    have h1 := sq_le b 1000000 hb
    have h2 := sq_mono (p := 5000000) (q := 2 * (a + k) + b) (by omega) (by omega)
    rw [five_sq]; omega
theorem not_geS_high (a b : Int) (ha : a ≤ 1000000) (hb : -1000000 ≤ b ∧ b ≤ 1000000) (k : Int) (hk : 4000000 ≤ k) : ¬ geS (a - k) b := by
  unfold geS
  have h1 := sq_le b 1000000 hb
  have h2 := sq_anti (p := 2 * (a - k) + b) (q := -5000000) (by omega) (by omega)
  rw [five_sq]; omega

/-- The search between two bounds that the floor goes by. -/
def search (a b : Int) : Nat → Int → Int → Int
  | 0, l, _ => l
  | n + 1, l, h => if 1 < h - l then (if 0 ≤ sgn (a - (l + (h - l) / 2)) b then search a b n (l + (h - l) / 2) h else search a b n l (l + (h - l) / 2)) else l
theorem search_floor (a b : Int) : ∀ (n : Nat) (l h : Int), l < h → (h - l).toNat ≤ n + 1 → 0 ≤ sgn (a - l) b → ¬ 0 ≤ sgn (a - h) b → IsFloor a b (search a b n l h)
  | 0, l, h, hlt, hn, h1, h2 => by
    obtain rfl : h = l + 1 := by omega
    exact ⟨h1, h2⟩
  | n + 1, l, h, hlt, hn, h1, h2 => by
    unfold search
    by_cases hc : 1 < h - l
    · rw [if_pos hc]
      split
      · exact search_floor a b n _ h (by omega) (by omega) (by assumption) h2
      · exact search_floor a b n l _ (by omega) (by omega) h1 (by assumption)
    · rw [if_neg hc]
      obtain rfl : h = l + 1 := by omega
      exact ⟨h1, h2⟩
/-- The floor of a Gold. -/
def flo (a b : Int) : Int := search a b 10000000 (-5000000) 5000000
theorem sgn_low (a b : Int) (ha : -1000000 ≤ a ∧ a ≤ 1000000) (hb : -1000000 ≤ b ∧ b ≤ 1000000) (k : Int) (hk : 4000000 ≤ k) : 0 ≤ sgn (a - -k) b := by
  rw [sgn_ge, show a - -k = a + k by omega]; exact geS_low a b ha.1 hb k hk
theorem sgn_high (a b : Int) (ha : -1000000 ≤ a ∧ a ≤ 1000000) (hb : -1000000 ≤ b ∧ b ≤ 1000000) (k : Int) (hk : 4000000 ≤ k) : ¬ 0 ≤ sgn (a - k) b := by
  rw [sgn_ge]; exact not_geS_high a b ha.2 hb k hk
theorem flo_is (a b : Int) (ha : -1000000 ≤ a ∧ a ≤ 1000000) (hb : -1000000 ≤ b ∧ b ≤ 1000000) : IsFloor a b (flo a b) :=
  search_floor a b _ _ _ (by omega) (by omega) (sgn_low a b ha hb 5000000 (by omega)) (sgn_high a b ha hb 5000000 (by omega))
theorem flo_eq {a b n : Int} (ha : -1000000 ≤ a ∧ a ≤ 1000000) (hb : -1000000 ≤ b ∧ b ≤ 1000000) (h : IsFloor a b n) : n = flo a b := floor_unique h (flo_is a b ha hb)
end Go.Proofs.Ytfbcbfimhgaicaa
