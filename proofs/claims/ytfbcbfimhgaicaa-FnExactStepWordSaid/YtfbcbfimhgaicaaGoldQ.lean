/- The walks of quotients, and the law on them. -/
import Derived.Test.YtfbcbfimhgaicaaGoldF
set_option linter.unusedSimpArgs false
set_option linter.unusedVariables false
namespace Go.Proofs.Ytfbcbfimhgaicaa
open Go.RowKit
/-! ### The norm is 0 at 0 alone; nothing wraps -/
theorem prod_le (p q m : Int) (hp : -m ≤ p ∧ p ≤ m) (hq : -m ≤ q ∧ q ≤ m) : -(m * m) ≤ p * q ∧ p * q ≤ m * m := by
  have h1 : 0 ≤ (m - p) * (m + q) := Int.mul_nonneg (by omega) (by omega)
  have h2 : 0 ≤ (m + p) * (m - q) := Int.mul_nonneg (by omega) (by omega)
  have h3 : 0 ≤ (m - p) * (m - q) := Int.mul_nonneg (by omega) (by omega)
  have h4 : 0 ≤ (m + p) * (m + q) := Int.mul_nonneg (by omega) (by omega)
  have e1 : (m - p) * (m + q) = m * m + m * q - p * m - p * q := by rw [Int.sub_mul, Int.mul_add, Int.mul_add]; omega
  have e2 : (m + p) * (m - q) = m * m - m * q + p * m - p * q := by rw [Int.add_mul, Int.mul_sub, Int.mul_sub]; omega
  have e3 : (m - p) * (m - q) = m * m - m * q - p * m + p * q := by rw [Int.sub_mul, Int.mul_sub, Int.mul_sub]; omega
  have e4 : (m + p) * (m + q) = m * m + m * q + p * m + p * q := by rw [Int.add_mul, Int.mul_add, Int.mul_add]; omega
  omega
def lim (a : Int) : Prop := -10000000 ≤ a ∧ a ≤ 10000000
theorem lim_prod {p q : Int} (hp : lim p) (hq : lim q) : -100000000000000 ≤ p * q ∧ p * q ≤ 100000000000000 := prod_le p q 10000000 hp hq
theorem mulA_in {a b c d : Int} (ha : lim a) (hb : lim b) (hc : lim c) (hd : lim d) : mulA a b c d = a * c + b * d := by
  have h1 := lim_prod ha hc
  have h2 := lim_prod hb hd
  unfold mulA
  rw [wrap_in (a * c) (by omega), wrap_in (b * d) (by omega), wrap_in (a * c + b * d) (by omega)]
theorem mulB_in {a b c d : Int} (ha : lim a) (hb : lim b) (hc : lim c) (hd : lim d) : mulB a b c d = a * d + b * c + b * d := by
  have h1 := lim_prod ha hd
  have h2 := lim_prod hb hc
  have h3 := lim_prod hb hd
  unfold mulB
  rw [wrap_in (a * d) (by omega), wrap_in (b * c) (by omega), wrap_in (b * d) (by omega), wrap_in (a * d + b * c) (by omega), wrap_in (a * d + b * c + b * d) (by omega)]
theorem normI_in {a b : Int} (ha : lim a) (hb : lim b) : normI a b = a * a + a * b - b * b := by
  have h1 := lim_prod ha ha
  have h2 := lim_prod ha hb
  have h3 := lim_prod hb hb
  unfold normI
  rw [wrap_in (a * a) (by omega), wrap_in (a * b) (by omega), wrap_in (b * b) (by omega), wrap_in (a * a + a * b) (by omega), wrap_in (a * a + a * b - b * b) (by omega)]
theorem norm_zero {a b : Int} (h : a * a + a * b - b * b = 0) : a = 0 ∧ b = 0 := by
  have e : (2 * a + b) * (2 * a + b) = 5 * (b * b) := by
    have e1 : (2 * a + b) * (2 * a + b) = 4 * (a * a) + 4 * (a * b) + b * b := by
      rw [Int.add_mul, Int.mul_add, Int.mul_add, Int.mul_assoc 2 a (2 * a), Int.mul_left_comm a 2 a, Int.mul_assoc 2 a b, Int.mul_left_comm b 2 a, Int.mul_comm b a]; omega
    omega
  obtain ⟨hb, hp⟩ := irr _ _ e
  omega
theorem normI_zero {a b : Int} (ha : lim a) (hb : lim b) : (normI a b == 0) = (decide (a = 0) && decide (b = 0)) := by
  rw [normI_in ha hb, Bool.eq_iff_iff]
  simp only [beq_iff_eq, Bool.and_eq_true, decide_eq_true_eq]
  exact ⟨norm_zero, fun ⟨h1, h2⟩ => by subst h1 h2; rfl⟩
theorem normI_lim {a b : Int} (ha : lim a) (hb : lim b) : -300000000000000 ≤ normI a b ∧ normI a b ≤ 300000000000000 := by
  have h1 := lim_prod ha ha
  have h2 := lim_prod ha hb
  have h3 := lim_prod hb hb
  rw [normI_in ha hb]; omega
theorem mulA_lim {a b c d : Int} (ha : lim a) (hb : lim b) (hc : lim c) (hd : lim d) : -300000000000000 ≤ mulA a b c d ∧ mulA a b c d ≤ 300000000000000 := by
  have h1 := lim_prod ha hc
  have h2 := lim_prod hb hd
  rw [mulA_in ha hb hc hd]; omega
theorem mulB_lim {a b c d : Int} (ha : lim a) (hb : lim b) (hc : lim c) (hd : lim d) : -300000000000000 ≤ mulB a b c d ∧ mulB a b c d ≤ 300000000000000 := by
  have h1 := lim_prod ha hd
  have h2 := lim_prod hb hc
  have h3 := lim_prod hb hd
  rw [mulB_in ha hb hc hd]; omega

/-! ### The walks -/
theorem lim_of {a : Int} (h : -1000000 ≤ a ∧ a ≤ 1000000) : lim a := ⟨by omega, by omega⟩
def dvA (a b c d : Int) : Int := mulA a b (c + d) (-d)
def dvB (a b c d : Int) : Int := mulB a b (c + d) (-d)
def quA (a b c d : Int) : Int := IntKind.i64.wrap ((dvA a b c d).tdiv (normI c d))
def quB (a b c d : Int) : Int := IntKind.i64.wrap ((dvB a b c d).tdiv (normI c d))
def dvK (a b c d : Int) : Bool := okB a b && (okB c d && (!(normI c d == 0) && (!((dvA a b c d).tmod (normI c d) != 0) && (!((dvB a b c d).tmod (normI c d) != 0) && okB (quA a b c d) (quB a b c d)))))
theorem dv_lim {a b c d : Int} (h1 : okB a b = true) (h2 : okB c d = true) : ((-300000000000000 ≤ dvA a b c d ∧ dvA a b c d ≤ 300000000000000) ∧ (-300000000000000 ≤ dvB a b c d ∧ dvB a b c d ≤ 300000000000000)) ∧ (-300000000000000 ≤ normI c d ∧ normI c d ≤ 300000000000000) := by
  obtain ⟨ha, hb⟩ := okB_true h1
  obtain ⟨hc, hd⟩ := okB_true h2
  have hcd : lim (c + d) := ⟨by omega, by omega⟩
  have hnd : lim (-d) := ⟨by omega, by omega⟩
  exact ⟨⟨mulA_lim (lim_of ha) (lim_of hb) hcd hnd, mulB_lim (lim_of ha) (lim_of hb) hcd hnd⟩, normI_lim (lim_of hc) (lim_of hd)⟩
theorem mate_iz (b : Int) (w : World) (hb : -50000000 ≤ b ∧ b ≤ 50000000) :
    Calls Try.prog 142 #[.agg #[.int .i64 (0), .int .i64 (b)]] w fun e w' => e = .returned (.agg #[.int .i64 (b), .int .i64 (-b)]) ∧ Below w.heap.size w w' := by
  have := mate_in 0 b w (by omega) hb
  rwa [Int.zero_add] at this
theorem dvK_no {a b c d : Int} (h : okB a b = false ∨ okB c d = false) : dvK a b c d = false := by
  unfold dvK; rcases h with h | h <;> rw [h] <;> simp
theorem dvK_zero {a b c d : Int} (h : (normI c d == 0) = true) : dvK a b c d = false := by
  unfold dvK; rw [h]; simp
theorem GV_false (a b : Int) : (.tuple #[.agg #[.int .i64 (gz (false) (a)), .int .i64 (gz (false) (b))], .bool (false)] : Value) = .tuple #[.agg #[.int .i64 (gz (false) (0)), .int .i64 (gz (false) (0))], .bool (false)] := rfl
end Go.Proofs.Ytfbcbfimhgaicaa
