/- Balanced words: the plain law. -/
import Derived.Test.YtilbhingfnjppabBytes
set_option linter.unusedSimpArgs false
set_option linter.unusedVariables false
namespace Go.Proofs.Ytilbhingfnjppab
open Go.RowKit
/-- How many of the first letters are b. -/
def cb (s : ByteArray) (i : Nat) : Nat := (s.data.toList.take i).count 98
theorem cb_zero (s : ByteArray) : cb s 0 = 0 := rfl
theorem cb_next (s : ByteArray) (i : Nat) (h : i < s.size) : cb s (i + 1) = cb s i + (if bt s i = 98 then 1 else 0) := by
  have hl : i < s.data.toList.length := by simpa using h
  have e : s.data.toList[i] = s[i]'h := by simp; rfl
  unfold cb bt
  rw [List.take_add_one, List.count_append, List.getElem?_eq_getElem hl, e, dif_pos h]
  by_cases hb : s[i]'h = 98
  · rw [hb]; rfl
  · have : ¬ (((s[i]'h).toNat : Int) = 98) := fun q => hb (UInt8.toNat_inj.mp (show (s[i]'h).toNat = 98 by omega))
    rw [if_neg this]
    simp [hb]
theorem cb_all (s : ByteArray) : cb s s.size = s.data.toList.count 98 := by
  unfold cb
  rw [List.take_of_length_le (by simp)]
theorem cb_mono (s : ByteArray) (i : Nat) : ∀ k, i + k ≤ s.size → cb s i ≤ cb s (i + k)
  | 0, _ => Nat.le_refl _
  | k + 1, h => by
    have h1 := cb_mono s i k (by omega)
    have h2 := cb_next s (i + k) (by omega)
    rw [show i + (k + 1) = i + k + 1 by omega]
    omega
theorem cb_le (s : ByteArray) (i : Nat) : ∀ k, i + k ≤ s.size → cb s (i + k) ≤ cb s i + k
  | 0, _ => Nat.le_refl _
  | k + 1, h => by
    have h1 := cb_le s i k (by omega)
    have h2 := cb_next s (i + k) (by omega)
    rw [show i + (k + 1) = i + k + 1 by omega]
    split at h2 <;> omega
/-- How many letters of a window are b. -/
def win (s : ByteArray) (n i : Nat) : Nat := cb s (i + n) - cb s i
theorem win_le (s : ByteArray) (n i : Nat) (h : i + n ≤ s.size) : win s n i ≤ n := by
  have := cb_le s i n h
  unfold win; omega
theorem win_eq (s : ByteArray) (n i : Nat) (h : i + n ≤ s.size) : cb s (i + n) = cb s i + win s n i := by
  have := cb_mono s i n h
  unfold win; omega
theorem win_count (s : ByteArray) (n i : Nat) : (s.extract i (i + n)).data.toList.count 98 = win s n i := by
  have e : (s.extract i (i + n)).data.toList = (s.data.toList.take (i + n)).drop i := by simp [List.drop_take]
  have e2 : (s.data.toList.take (i + n)).count 98 = ((s.data.toList.take (i + n)).take i).count 98 + ((s.data.toList.take (i + n)).drop i).count 98 := by
    rw [← List.count_append, List.take_append_drop]
  rw [List.take_take, Nat.min_eq_left (by omega)] at e2
  rw [e]
  unfold win cb
  omega
/-- The least and the greatest of the first windows. -/
def loF (s : ByteArray) (n : Nat) : Nat → Nat
  | 0 => n
  | m + 1 => min (loF s n m) (win s n m)
def hiF (s : ByteArray) (n : Nat) : Nat → Nat
  | 0 => 0
  | m + 1 => max (hiF s n m) (win s n m)
theorem loF_le (s : ByteArray) (n : Nat) : ∀ m, loF s n m ≤ n
  | 0 => Nat.le_refl _
  | m + 1 => Nat.le_trans (Nat.min_le_left _ _) (loF_le s n m)
theorem loF_win (s : ByteArray) (n : Nat) : ∀ m i, i < m → loF s n m ≤ win s n i
  | 0, _, h => absurd h (by omega)
  | m + 1, i, h => by
    rw [loF]
    by_cases e : i = m
    · subst e; exact Nat.min_le_right _ _
    · exact Nat.le_trans (Nat.min_le_left _ _) (loF_win s n m i (by omega))
theorem hiF_win (s : ByteArray) (n : Nat) : ∀ m i, i < m → win s n i ≤ hiF s n m
  | 0, _, h => absurd h (by omega)
  | m + 1, i, h => by
    rw [hiF]
    by_cases e : i = m
    · subst e; exact Nat.le_max_right _ _
    · exact Nat.le_trans (hiF_win s n m i (by omega)) (Nat.le_max_left _ _)
theorem loF_some (s : ByteArray) (n : Nat) : ∀ m, loF s n m = n ∨ ∃ i, i < m ∧ loF s n m = win s n i
  | 0 => .inl rfl
  | m + 1 => by
    rw [loF]
    rcases Nat.le_total (loF s n m) (win s n m) with h | h
    · rw [Nat.min_eq_left h]
      rcases loF_some s n m with q | ⟨i, q1, q2⟩
      · exact .inl q
      · exact .inr ⟨i, by omega, q2⟩
    · rw [Nat.min_eq_right h]; exact .inr ⟨m, by omega, rfl⟩
theorem hiF_some (s : ByteArray) (n : Nat) : ∀ m, hiF s n m = 0 ∨ ∃ i, i < m ∧ hiF s n m = win s n i
  | 0 => .inl rfl
  | m + 1 => by
    rw [hiF]
    rcases Nat.le_total (hiF s n m) (win s n m) with h | h
    · rw [Nat.max_eq_right h]; exact .inr ⟨m, by omega, rfl⟩
    · rw [Nat.max_eq_left h]
      rcases hiF_some s n m with q | ⟨i, q1, q2⟩
      · exact .inl q
      · exact .inr ⟨i, by omega, q2⟩
theorem hiF_le (s : ByteArray) (n m : Nat) (h : m + n ≤ s.size + 1) : hiF s n m ≤ n := by
  rcases hiF_some s n m with q | ⟨i, q1, q2⟩
  · omega
  · rw [q2]; exact win_le s n i (by omega)
def loS (s : ByteArray) (n : Nat) : Nat := loF s n (s.size + 1 - n)
def hiS (s : ByteArray) (n : Nat) : Nat := hiF s n (s.size + 1 - n)
theorem loS_le (s : ByteArray) (n : Nat) : loS s n ≤ n := loF_le _ _ _
theorem hiS_le (s : ByteArray) (n : Nat) (h : n ≤ s.size) : hiS s n ≤ n := hiF_le _ _ _ (by omega)
theorem lo_hi (s : ByteArray) (n : Nat) (h : n ≤ s.size) : loS s n ≤ hiS s n :=
  Nat.le_trans (loF_win s n _ 0 (by omega)) (hiF_win s n _ 0 (by omega))
/-- No two windows of one length are further apart than one. -/
def balP (s : ByteArray) : Prop := ∀ n, 1 ≤ n → n ≤ s.size → hiS s n ≤ loS s n + 1
theorem bal_of_win {s : ByteArray} (h : ∀ n i j, 1 ≤ n → i + n ≤ s.size → j + n ≤ s.size → win s n i ≤ win s n j + 1) : balP s := by
  intro n h1 h2
  unfold hiS loS
  rcases hiF_some s n (s.size + 1 - n) with q | ⟨i, q1, q2⟩
  · omega
  · rw [q2]
    rcases loF_some s n (s.size + 1 - n) with r | ⟨j, r1, r2⟩
    · have := win_le s n i (by omega); omega
    · rw [r2]; exact h n i j h1 (by omega) (by omega)
theorem win_of_bal {s : ByteArray} (h : balP s) (n i j : Nat) (h1 : 1 ≤ n) (hi : i + n ≤ s.size) (hj : j + n ≤ s.size) : win s n i ≤ win s n j + 1 := by
  have h3 := h n h1 (by omega)
  have h4 := hiF_win s n (s.size + 1 - n) i (by omega)
  have h5 := loF_win s n (s.size + 1 - n) j (by omega)
  unfold hiS loS at h3
  omega
/-- A word is mechanical: its letters tell where the multiples of p, begun at st, pass a multiple of q. -/
def mechP (s : ByteArray) (p q st : Nat) : Prop := ∀ i, i < s.size → (bt s i = 98 ↔ (st + i * p) / q < (st + (i + 1) * p) / q)
theorem div_step {p q x : Nat} (hq : 1 ≤ q) (hp : p ≤ q) : x / q ≤ (x + p) / q ∧ (x + p) / q ≤ x / q + 1 := by
  refine ⟨Nat.div_le_div_right (by omega), ?_⟩
  have : (x + q) / q = x / q + 1 := Nat.add_div_right x (by omega)
  rw [← this]
  exact Nat.div_le_div_right (by omega)
theorem mech_cb {s : ByteArray} {p q st : Nat} (hq : 1 ≤ q) (hp : p ≤ q) (h : mechP s p q st) : ∀ i, i ≤ s.size → cb s i + st / q = (st + i * p) / q
  | 0, _ => by rw [cb_zero, Nat.zero_mul, Nat.zero_add, Nat.add_zero]
  | i + 1, hi => by
    have h1 := mech_cb hq hp h i (by omega)
    have h2 := cb_next s i (by omega)
    have h3 := h i (by omega)
    have h4 := div_step (x := st + i * p) hq hp
    have e : st + (i + 1) * p = st + i * p + p := by rw [Nat.succ_mul, Nat.add_assoc]
    rw [e] at h3 ⊢
    by_cases hb : bt s i = 98
    · rw [if_pos hb] at h2
      have := h3.1 hb
      omega
    · rw [if_neg hb] at h2
      have : ¬ ((st + i * p) / q < (st + i * p + p) / q) := fun g => hb (h3.2 g)
      omega
theorem div_add_two (x y q : Nat) (hq : 1 ≤ q) : x / q + y / q ≤ (x + y) / q ∧ (x + y) / q ≤ x / q + y / q + 1 := by
  have hx := Nat.div_add_mod x q
  have hy := Nat.div_add_mod y q
  have lx := Nat.mod_lt x (show 0 < q by omega)
  have ly := Nat.mod_lt y (show 0 < q by omega)
  have e : x + y = q * (x / q + y / q) + (x % q + y % q) := by rw [Nat.mul_add]; omega
  have e2 : (x + y) / q = (x / q + y / q) + (x % q + y % q) / q := by rw [e, Nat.mul_add_div (by omega)]
  rw [e2]
  have : (x % q + y % q) / q < 2 := Nat.div_lt_of_lt_mul (by omega)
  exact ⟨Nat.le_add_right _ _, Nat.add_le_add_left (Nat.le_of_lt_succ this) _⟩
theorem mech_bal {s : ByteArray} {p q st : Nat} (hq : 1 ≤ q) (hp : p ≤ q) (h : mechP s p q st) : balP s := by
  refine bal_of_win (fun n i j h1 hi hj => ?_)
  have a1 := mech_cb hq hp h i (by omega)
  have a2 := mech_cb hq hp h (i + n) hi
  have b1 := mech_cb hq hp h j (by omega)
  have b2 := mech_cb hq hp h (j + n) hj
  have c1 := div_add_two (st + i * p) (n * p) q hq
  have c2 := div_add_two (st + j * p) (n * p) q hq
  rw [show st + (i + n) * p = st + i * p + n * p by rw [Nat.add_mul]; omega] at a2
  rw [show st + (j + n) * p = st + j * p + n * p by rw [Nat.add_mul]; omega] at b2
  unfold win
  omega
end Go.Proofs.Ytilbhingfnjppab
