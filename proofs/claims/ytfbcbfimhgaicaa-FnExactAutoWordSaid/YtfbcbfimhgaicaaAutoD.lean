/- Running an automaton: the two ways to its end. -/
import Derived.Test.YtfbcbfimhgaicaaAutoB
import Derived.Deep.RegionHeld3
set_option linter.unusedSimpArgs false
set_option linter.unusedVariables false
namespace Go.Proofs.Ytfbcbfimhgaicaa
open Go.RowKit
/-- The state in which an automaton ends. -/
def ed (d : Nat) (Z : Nat → List Int) (n : Nat) : Nat := if h : n = 0 ∨ d < 2 then 0 else ((Z (ed d Z (n / d))).getD (n % d) 0).toNat
termination_by n
decreasing_by exact Nat.div_lt_self (by omega) (by omega)
theorem ed_zero (d : Nat) (Z : Nat → List Int) : ed d Z 0 = 0 := by unfold ed; simp
theorem ed_pos {d : Nat} (Z : Nat → List Int) {n : Nat} (hd : 2 ≤ d) (hn : n ≠ 0) : ed d Z n = ((Z (ed d Z (n / d))).getD (n % d) 0).toNat := by
  rw [ed, dif_neg (by omega)]
theorem ed_lt {d n : Nat} {Z : Nat → List Int} {o : ByteArray} (hau : auP (d : Int) n Z o) : ∀ m, ed d Z m < n := by
  intro m
  induction m using Nat.strongRecOn with
  | _ m ih =>
    have h1 := hau.1
    have h2 := hau.2.1
    by_cases h : m = 0
    · subst h; rw [ed_zero]; omega
    · have hq := ih (m / d) (Nat.div_lt_self (by omega) (by omega))
      obtain ⟨r1, r2⟩ := hau.2.2.2.2 _ hq
      have r3 := r2 (m % d) (by have := Nat.mod_lt m (by omega : d > 0); omega)
      rw [ed_pos Z (by omega) h]
      omega
/-- The cell that the automaton goes by. -/
theorem ed_cell {d n : Nat} {Z : Nat → List Int} {o : ByteArray} (hau : auP (d : Int) n Z o) {m : Nat} (hm : m ≠ 0) : m % d < (Z (ed d Z (m / d))).length ∧ (Z (ed d Z (m / d))).getD (m % d) 0 = ((ed d Z m : Nat) : Int) := by
  have h1 := hau.1
  obtain ⟨r1, r2⟩ := hau.2.2.2.2 _ (ed_lt hau (m / d))
  have hl : m % d < (Z (ed d Z (m / d))).length := by have := Nat.mod_lt m (by omega : d > 0); omega
  have r3 := r2 (m % d) hl
  refine ⟨hl, ?_⟩
  rw [ed_pos Z (by omega) hm]
  omega
/-- The digits of a number, the lowest first. -/
def dg (d : Nat) (n : Nat) : List Int := if h : n = 0 ∨ d < 2 then [] else ((n % d : Nat) : Int) :: dg d (n / d)
termination_by n
decreasing_by exact Nat.div_lt_self (by omega) (by omega)
theorem dg_zero (d : Nat) : dg d 0 = [] := by unfold dg; simp
theorem dg_pos {d n : Nat} (hd : 2 ≤ d) (hn : n ≠ 0) : dg d n = ((n % d : Nat) : Int) :: dg d (n / d) := by rw [dg, dif_neg (by omega)]
theorem dg_at {d : Nat} (hd : 2 ≤ d) : ∀ n i, i < (dg d n).length → (dg d n).getD i 0 = ((n / d ^ i % d : Nat) : Int) ∧ n / d ^ i ≠ 0 := by
  intro n
  induction n using Nat.strongRecOn with
  | _ n ih =>
    intro i hi
    by_cases h : n = 0
    · subst h; rw [dg_zero] at hi; simp at hi
    · rw [dg_pos hd h] at hi ⊢
      cases i with
      | zero => simp; exact h
      | succ i =>
        simp at hi
        have := ih (n / d) (Nat.div_lt_self (by omega) (by omega)) i hi
        rw [List.getD_cons_succ, Nat.pow_succ, Nat.mul_comm, ← Nat.div_div_eq_div_mul]
        exact this
theorem dg_end {d : Nat} (hd : 2 ≤ d) : ∀ n, n / d ^ (dg d n).length = 0 := by
  intro n
  induction n using Nat.strongRecOn with
  | _ n ih =>
    by_cases h : n = 0
    · subst h; simp
    · rw [dg_pos hd h, List.length_cons, Nat.pow_succ, Nat.mul_comm, ← Nat.div_div_eq_div_mul]
      exact ih (n / d) (Nat.div_lt_self (by omega) (by omega))
theorem dg_len {d : Nat} (hd : 2 ≤ d) : ∀ n, (dg d n).length ≤ n := by
  intro n
  induction n using Nat.strongRecOn with
  | _ n ih =>
    by_cases h : n = 0
    · subst h; rw [dg_zero]; simp
    · have hlt : n / d < n := Nat.div_lt_self (by omega) (by omega)
      have := ih (n / d) hlt
      rw [dg_pos hd h, List.length_cons]; omega
theorem tmodN (a b : Nat) : (a : Int).tmod (b : Int) = ((a % b : Nat) : Int) := (Int.ofNat_tmod a b).symm
theorem tdivN (a b : Nat) : (a : Int).tdiv (b : Int) = ((a / b : Nat) : Int) := (Int.ofNat_tdiv a b).symm
end Go.Proofs.Ytfbcbfimhgaicaa
