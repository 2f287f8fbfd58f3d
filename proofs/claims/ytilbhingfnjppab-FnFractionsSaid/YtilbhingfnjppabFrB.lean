/- The path to a fraction and the fraction at a path: plain laws and walks. -/
import Derived.Test.YtilbhingfnjppabFrA
set_option linter.unusedSimpArgs false
set_option linter.unusedVariables false
namespace Go.Proofs.Ytilbhingfnjppab
open Go.RowKit
/-- The way that Euclid takes by single steps: the lesser from the greater. -/
def sbF : Nat → Nat → Nat → List UInt8
  | 0, _, _ => []
  | f + 1, u, v => if u < v then 76 :: sbF f u (v - u) else if v < u then 82 :: sbF f (u - v) v else []
def sb (u v : Nat) : List UInt8 := sbF (u + v) u v
theorem sbF_fuel : ∀ (f g u v : Nat), 1 ≤ u → 1 ≤ v → u + v ≤ f → u + v ≤ g → sbF f u v = sbF g u v
  | 0, _, _, _, _, _, h, _ => by omega
  | _ + 1, 0, _, _, _, _, _, h => by omega
  | f + 1, g + 1, u, v, h1, h2, h3, h4 => by
    unfold sbF
    by_cases e : u < v
    · rw [if_pos e, if_pos e, sbF_fuel f g u (v - u) (by omega) (by omega) (by omega) (by omega)]
    · rw [if_neg e, if_neg e]
      by_cases e2 : v < u
      · rw [if_pos e2, if_pos e2, sbF_fuel f g (u - v) v (by omega) (by omega) (by omega) (by omega)]
      · rw [if_neg e2, if_neg e2]
theorem sb_left {u v : Nat} (h1 : 1 ≤ u) (h : u < v) : sb u v = 76 :: sb u (v - u) := by
  unfold sb
  obtain ⟨f, hf⟩ : ∃ f, u + v = f + 1 := ⟨u + v - 1, by omega⟩
  rw [hf, sbF, if_pos h, sbF_fuel f (u + (v - u)) u (v - u) (by omega) (by omega) (by omega) (by omega)]
theorem sb_right {u v : Nat} (h1 : 1 ≤ v) (h : v < u) : sb u v = 82 :: sb (u - v) v := by
  unfold sb
  obtain ⟨f, hf⟩ : ∃ f, u + v = f + 1 := ⟨u + v - 1, by omega⟩
  rw [hf, sbF, if_neg (by omega), if_pos h, sbF_fuel f ((u - v) + v) (u - v) v (by omega) (by omega) (by omega) (by omega)]
theorem sb_end {u v : Nat} (h1 : 1 ≤ u) (h : u = v) : sb u v = [] := by
  subst h
  unfold sb
  obtain ⟨f, hf⟩ : ∃ f, u + u = f + 1 := ⟨u + u - 1, by omega⟩
  rw [hf, sbF, if_neg (by omega), if_neg (by omega)]
theorem sb_len : ∀ (f u v : Nat), u + v ≤ f → 1 ≤ u → 1 ≤ v → (sb u v).length + 2 ≤ u + v + 1
  | 0, u, v, h, h1, h2 => by omega
  | f + 1, u, v, h, h1, h2 => by
    by_cases e : u < v
    · have := sb_len f u (v - u) (by omega) h1 (by omega)
      rw [sb_left h1 e, List.length_cons]; omega
    · by_cases e2 : v < u
      · have := sb_len f (u - v) v (by omega) (by omega) h2
        rw [sb_right h2 e2, List.length_cons]; omega
      · rw [sb_end h1 (by omega)]; simp; omega
/-- What the four numbers are while the way is gone. -/
structure Sb (p q a b c d u v : Nat) : Prop where
  u1 : 1 ≤ u
  v1 : 1 ≤ v
  e1 : a * v + c * u = p
  e2 : b * v + d * u = q
  e3 : p * b = a * q + u
  e4 : c * q = p * d + v
theorem Sb.start {p q : Nat} (hp : 1 ≤ p) (hq : 1 ≤ q) : Sb p q 0 1 1 0 p q := ⟨hp, hq, by omega, by omega, by omega, by omega⟩
theorem Sb.left {p q a b c d u v : Nat} (h : Sb p q a b c d u v) (hlt : u < v) : Sb p q a b (a + c) (b + d) u (v - u) := by
  obtain ⟨h1, h2, h3, h4, h5, h6⟩ := h
  obtain ⟨w, rfl⟩ : ∃ w, v = u + w := ⟨v - u, by omega⟩
  rw [Nat.add_sub_cancel_left]
  refine ⟨h1, by omega, ?_, ?_, h5, ?_⟩
  · rw [Nat.mul_add] at h3; rw [Nat.add_mul]; omega
  · rw [Nat.mul_add] at h4; rw [Nat.add_mul]; omega
  · rw [Nat.add_mul, Nat.mul_add]; omega
theorem Sb.right {p q a b c d u v : Nat} (h : Sb p q a b c d u v) (hlt : v < u) : Sb p q (a + c) (b + d) c d (u - v) v := by
  obtain ⟨h1, h2, h3, h4, h5, h6⟩ := h
  obtain ⟨w, rfl⟩ : ∃ w, u = v + w := ⟨u - v, by omega⟩
  rw [Nat.add_sub_cancel_left]
  refine ⟨by omega, h2, ?_, ?_, ?_, h6⟩
  · rw [Nat.mul_add] at h3; rw [Nat.add_mul]; omega
  · rw [Nat.mul_add] at h4; rw [Nat.add_mul]; omega
  · rw [Nat.mul_add, Nat.add_mul]; omega
theorem Sb.le {p q a b c d u v : Nat} (h : Sb p q a b c d u v) : a + c ≤ p ∧ b + d ≤ q := by
  obtain ⟨h1, h2, h3, h4, _, _⟩ := h
  have m1 := Nat.le_mul_of_pos_right a (show 0 < v by omega)
  have m2 := Nat.le_mul_of_pos_right c (show 0 < u by omega)
  have m3 := Nat.le_mul_of_pos_right b (show 0 < v by omega)
  have m4 := Nat.le_mul_of_pos_right d (show 0 < u by omega)
  omega
theorem Sb.cmp {p q a b c d u v : Nat} (h : Sb p q a b c d u v) : p * (b + d) + v = (a + c) * q + u := by
  obtain ⟨h1, h2, h3, h4, h5, h6⟩ := h
  rw [Nat.mul_add, Nat.add_mul]; omega
/-- At the end the fraction is there. -/
theorem Sb.fin {p q a b c d : Nat} (h : Sb p q a b c d 1 1) : a + c = p ∧ b + d = q := by
  obtain ⟨h1, h2, h3, h4, h5, h6⟩ := h
  omega
end Go.Proofs.Ytilbhingfnjppab
