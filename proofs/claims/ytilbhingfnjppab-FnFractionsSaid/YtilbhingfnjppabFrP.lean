/- Fractions and their quotients: the plain law, by a table that the kernel checks. -/
import Derived.Test.YtilbhingfnjppabFrD
set_option linter.unusedSimpArgs false
set_option linter.unusedVariables false
namespace Go.Proofs.Ytilbhingfnjppab
open Go.RowKit
def allB (n : Nat) (f : Nat → Bool) : Bool := Nat.rec true (fun k b => b && f k) n
theorem allB_at {f : Nat → Bool} : ∀ {n : Nat}, allB n f = true → ∀ k, k < n → f k = true
  | 0, _, k, hk => absurd hk (by omega)
  | n + 1, h, k, hk => by
    have h' : (allB n f && f n) = true := h
    rw [Bool.and_eq_true] at h'
    by_cases e : k = n
    · rw [e]; exact h'.2
    · exact allB_at h'.1 k (by omega)
/-- What holds of one round: from state s, at place i. -/
def stepB : Nat × Nat × Nat × Nat → Nat → List Nat → Bool
  | _, _, [] => true
  | s, i, k :: r => Nat.ble (min i 1) k && Nat.ble k 60 && Nat.ble (cvS s k).2.2.1 60 && Nat.ble (cvS s k).2.2.2 60 &&
    (if i % 2 = 0 then Nat.beq ((cvS s k).2.2.2 * s.2.2.1) ((cvS s k).2.2.1 * s.2.2.2 + 1) else Nat.beq ((cvS s k).2.2.1 * s.2.2.2) ((cvS s k).2.2.2 * s.2.2.1 + 1)) && stepB (cvS s k) (i + 1) r
def sumN : List Nat → Nat
  | [] => 0
  | k :: r => k + sumN r
def frB (p q : Nat) : Bool :=
  let l := qs p q
  let s := l.foldl cvS (0, 1, 1, 0)
  Nat.ble 1 l.length && Nat.ble l.length 20 && stepB (0, 1, 1, 0) 0 l && Nat.beq (s.2.2.1 * q) (s.2.2.2 * p) && Nat.ble 1 s.2.2.2 && Nat.beq (Nat.gcd s.2.2.1 s.2.2.2) 1 &&
  (Nat.beq l.length 1 || Nat.ble 2 (l.getD (l.length - 1) 0)) && (Nat.beq s.2.2.1 0 || Nat.beq ((sb s.2.2.1 s.2.2.2).length + 1) (sumN l))
set_option maxRecDepth 100000 in
theorem fr_all : allB 61 (fun p => allB 60 (fun q => frB p (q + 1))) = true := by decide +kernel
theorem ble_le {a b : Nat} (h : Nat.ble a b = true) : a ≤ b := Nat.le_of_ble_eq_true h
theorem beq_eq {a b : Nat} (h : Nat.beq a b = true) : a = b := Nat.eq_of_beq_eq_true h
theorem stepB_at : ∀ (r : List Nat) (s : Nat × Nat × Nat × Nat) (i : Nat), stepB s i r = true → ∀ j, j < r.length →
    (min (i + j) 1 ≤ r.getD j 0 ∧ r.getD j 0 ≤ 60) ∧ ((r.take (j + 1)).foldl cvS s).2.2.1 ≤ 60 ∧ ((r.take (j + 1)).foldl cvS s).2.2.2 ≤ 60 ∧
    ((i + j) % 2 = 0 → ((r.take (j + 1)).foldl cvS s).2.2.2 * ((r.take j).foldl cvS s).2.2.1 = ((r.take (j + 1)).foldl cvS s).2.2.1 * ((r.take j).foldl cvS s).2.2.2 + 1) ∧
    ((i + j) % 2 ≠ 0 → ((r.take (j + 1)).foldl cvS s).2.2.1 * ((r.take j).foldl cvS s).2.2.2 = ((r.take (j + 1)).foldl cvS s).2.2.2 * ((r.take j).foldl cvS s).2.2.1 + 1)
  | [], _, _, _, j, hj => absurd hj (by simp)
  | k :: r, s, i, h, j, hj => by
    unfold stepB at h
    simp only [Bool.and_eq_true] at h
    obtain ⟨⟨⟨⟨⟨h1, h2⟩, h3⟩, h4⟩, h5⟩, h6⟩ := h
    match j with
    | 0 =>
      refine ⟨⟨by rw [Nat.add_zero]; exact ble_le h1, ble_le h2⟩, ble_le h3, ble_le h4, fun e => ?_, fun e => ?_⟩
      · rw [Nat.add_zero] at e; rw [if_pos e] at h5; exact beq_eq h5
      · rw [Nat.add_zero] at e; rw [if_neg e] at h5; exact beq_eq h5
    | j + 1 =>
      have := stepB_at r (cvS s k) (i + 1) h6 j (by simpa using hj)
      rw [show i + 1 + j = i + (j + 1) by omega] at this
      exact this
/-- What holds of a fraction's quotients. -/
structure FrOk (p q : Nat) : Prop where
  ok : QOk (qs p q)
  eq : cN (qs p q) ((qs p q).length - 1) * q = dN (qs p q) ((qs p q).length - 1) * p
  d1 : 1 ≤ dN (qs p q) ((qs p q).length - 1)
  gcd : Nat.gcd (cN (qs p q) ((qs p q).length - 1)) (dN (qs p q) ((qs p q).length - 1)) = 1
  last : (qs p q).length = 1 ∨ 2 ≤ (qs p q).getD ((qs p q).length - 1) 0
  path : cN (qs p q) ((qs p q).length - 1) = 0 ∨ (sb (cN (qs p q) ((qs p q).length - 1)) (dN (qs p q) ((qs p q).length - 1))).length + 1 = sumN (qs p q)
  few : ∀ j, j < (qs p q).length → (qs p q).getD j 0 ≤ 60 ∧ cN (qs p q) j ≤ 60 ∧ dN (qs p q) j ≤ 60
  even : ∀ j, j + 1 < (qs p q).length → (j + 1) % 2 = 0 → dN (qs p q) (j + 1) * cN (qs p q) j = cN (qs p q) (j + 1) * dN (qs p q) j + 1
  odd : ∀ j, j + 1 < (qs p q).length → (j + 1) % 2 ≠ 0 → cN (qs p q) (j + 1) * dN (qs p q) j = dN (qs p q) (j + 1) * cN (qs p q) j + 1
theorem fr_ok (p q : Nat) (hp : p ≤ 60) (hq1 : 1 ≤ q) (hq : q ≤ 60) : FrOk p q := by
  have h := allB_at (allB_at fr_all p (by omega)) (q - 1) (by omega)
  rw [show q - 1 + 1 = q by omega] at h
  unfold frB at h
  simp only [Bool.and_eq_true] at h
  obtain ⟨⟨⟨⟨⟨⟨⟨h1, h2⟩, h3⟩, h4⟩, h5⟩, h6⟩, h7⟩, h8⟩ := h
  have hs := stepB_at _ _ _ h3
  clear h3
  obtain ⟨l, hl⟩ : ∃ l, qs p q = l := ⟨_, rfl⟩
  rw [hl] at h1 h2 h4 h5 h6 h7 h8 hs
  have n1 := ble_le h1
  have n2 := ble_le h2
  have ef : l.foldl cvS (0, 1, 1, 0) = cvAt l (l.length - 1 + 1) := by
    unfold cvAt
    rw [show l.length - 1 + 1 = l.length by omega, List.take_length]
  rw [ef] at h4 h5 h6 h8
  refine ⟨⟨by rw [hl]; exact n1, by rw [hl]; exact n2, fun j hj => ?_, fun j hj => ?_⟩, by rw [hl]; exact beq_eq h4, by rw [hl]; exact ble_le h5, by rw [hl]; exact beq_eq h6, ?_, ?_, fun j hj => ?_, fun j hj he => ?_, fun j hj he => ?_⟩
  · rw [hl] at hj ⊢
    obtain ⟨⟨q1, q2⟩, -⟩ := hs j hj
    rw [Nat.zero_add] at q1
    exact ⟨q1, by omega⟩
  · rw [hl] at hj ⊢
    obtain ⟨-, q3, q4, -⟩ := hs j hj
    exact ⟨Nat.le_trans q3 (by decide), Nat.le_trans q4 (by decide)⟩
  · rw [hl]
    rw [Bool.or_eq_true] at h7
    rcases h7 with e | e
    · exact .inl (beq_eq e)
    · exact .inr (ble_le e)
  · rw [hl]
    rw [Bool.or_eq_true] at h8
    rcases h8 with e | e
    · exact .inl (beq_eq e)
    · exact .inr (beq_eq e)
  · rw [hl] at hj ⊢
    obtain ⟨⟨-, q2⟩, q3, q4, -⟩ := hs j hj
    exact ⟨q2, q3, q4⟩
  · rw [hl] at hj ⊢
    obtain ⟨-, -, -, q5, -⟩ := hs (j + 1) hj
    exact q5 (by omega)
  · rw [hl] at hj ⊢
    obtain ⟨-, -, -, -, q6⟩ := hs (j + 1) hj
    exact q6 (by omega)
end Go.Proofs.Ytilbhingfnjppab
