/- Balanced words: what parts an unbalanced one, slopes, turning: the plain laws. -/
import Derived.Test.YtilbhingfnjppabBal
import Derived.Test.YtilbhingfnjppabCenA
set_option linter.unusedSimpArgs false
set_option linter.unusedVariables false
namespace Go.Proofs.Ytilbhingfnjppab
open Go.RowKit
/-! ### Slopes -/
theorem win_split (s : ByteArray) (a b i : Nat) (h : i + (a + b) ≤ s.size) : win s (a + b) i = win s a i + win s b (i + a) := by
  have h1 := win_eq s (a + b) i h
  have h2 := win_eq s a i (by omega)
  have h3 := win_eq s b (i + a) (by omega)
  rw [show i + (a + b) = i + a + b by omega] at h1
  omega
theorem slope_lt {s : ByteArray} (hb : balP s) : ∀ (f n m : Nat), n + m ≤ f → 1 ≤ n → 1 ≤ m → ∀ i j, i + n ≤ s.size → j + m ≤ s.size → win s n i * m < win s m j * n + n + m
  | 0, n, m, h, h1, h2 => by omega
  | f + 1, n, m, h, h1, h2 => fun i j hi hj => by
    rcases Nat.lt_trichotomy n m with hlt | heq | hgt
    · obtain ⟨d, rfl⟩ : ∃ d, m = n + d := ⟨m - n, by omega⟩
      have h3 := win_split s n d j (by omega)
      have ih := slope_lt hb f n d (by omega) h1 (by omega) i (j + n) hi (by omega)
      have h4 := win_of_bal hb n i j h1 hi (by omega)
      have h5 : win s n i * n ≤ win s n j * n + n := by
        have := Nat.mul_le_mul_right n h4
        rw [Nat.add_mul, Nat.one_mul] at this; exact this
      rw [h3, Nat.mul_add, Nat.add_mul]
      omega
    · subst heq
      have h4 := win_of_bal hb n i j h1 hi hj
      have h5 : win s n i * n ≤ win s n j * n + n := by
        have := Nat.mul_le_mul_right n h4
        rw [Nat.add_mul, Nat.one_mul] at this; exact this
      omega
    · obtain ⟨d, rfl⟩ : ∃ d, n = m + d := ⟨n - m, by omega⟩
      have h3 := win_split s m d i (by omega)
      have ih := slope_lt hb f d m (by omega) (by omega) h2 (i + m) j (by omega) hj
      have h4 := win_of_bal hb m i j h2 (by omega) hj
      have h5 : win s m i * m ≤ win s m j * m + m := by
        have := Nat.mul_le_mul_right m h4
        rw [Nat.add_mul, Nat.one_mul] at this; exact this
      rw [h3, Nat.add_mul, Nat.mul_add]
      omega
/-- What the least and the greatest of a length are windows' counts. -/
theorem lo_win (s : ByteArray) (n : Nat) (hn : n ≤ s.size) : ∃ i, i + n ≤ s.size ∧ loS s n = win s n i := by
  unfold loS
  rcases loF_some s n (s.size + 1 - n) with h | ⟨i, h1, h2⟩
  · refine ⟨0, by omega, ?_⟩
    have h3 := loF_win s n (s.size + 1 - n) 0 (by omega)
    have h4 := win_le s n 0 (by omega)
    omega
  · exact ⟨i, by omega, h2⟩
theorem hi_win (s : ByteArray) (n : Nat) (hn : n ≤ s.size) : ∃ i, i + n ≤ s.size ∧ hiS s n = win s n i := by
  unfold hiS
  rcases hiF_some s n (s.size + 1 - n) with h | ⟨i, h1, h2⟩
  · refine ⟨0, by omega, ?_⟩
    have h3 := hiF_win s n (s.size + 1 - n) 0 (by omega)
    omega
  · exact ⟨i, by omega, h2⟩
theorem slope_bal {s : ByteArray} (hb : balP s) (n m : Nat) (hn1 : 1 ≤ n) (hn : n ≤ s.size) (hm1 : 1 ≤ m) (hm : m ≤ s.size) : hiS s n * m < loS s m * n + n + m := by
  obtain ⟨i, h1, h2⟩ := hi_win s n hn
  obtain ⟨j, h3, h4⟩ := lo_win s m hm
  rw [h2, h4]
  exact slope_lt hb (n + m) n m (Nat.le_refl _) hn1 hm1 i j h1 h3
theorem not_bal {s : ByteArray} (hb : ¬ balP s) : ∃ n, 1 ≤ n ∧ n ≤ s.size ∧ loS s n + 2 ≤ hiS s n := by
  apply Classical.byContradiction
  intro h
  apply hb
  intro n h1 h2
  apply Classical.byContradiction
  intro h3
  exact h ⟨n, h1, h2, by omega⟩
/-! ### What parts an unbalanced word -/
theorem least {P : Nat → Prop} : ∀ (n : Nat), P n → ∃ m, m ≤ n ∧ P m ∧ ∀ k, k < m → ¬ P k
  | 0, h => ⟨0, Nat.le_refl _, h, fun k hk => by omega⟩
  | n + 1, h => by
    by_cases q : ∃ k, k ≤ n ∧ P k
    · obtain ⟨k, h1, h2⟩ := q
      obtain ⟨m, h3, h4, h5⟩ := least k h2
      exact ⟨m, by omega, h4, h5⟩
    · exact ⟨n + 1, Nat.le_refl _, h, fun k hk hp => q ⟨k, by omega, hp⟩⟩
/-- Two windows of a length, two apart: the prefixes are one apart, and so are the suffixes. -/
theorem unbal {s : ByteArray} (hb : ¬ balP s) : ∃ n i j, i + (n + 2) ≤ s.size ∧ j + (n + 2) ≤ s.size ∧
    (∀ L, 1 ≤ L → L ≤ n + 1 → win s L j = win s L i + 1 ∧ win s L i = win s L (i + (n + 2 - L))) ∧ win s (n + 2) j = win s (n + 2) i + 2 := by
  obtain ⟨N, h1, h2, h3⟩ := not_bal hb
  let P : Nat → Prop := fun n => n ≤ s.size ∧ ∃ i j, i + n ≤ s.size ∧ j + n ≤ s.size ∧ win s n i + 2 ≤ win s n j
  have hP : P N := by
    obtain ⟨i, q1, q2⟩ := lo_win s N h2
    obtain ⟨j, q3, q4⟩ := hi_win s N h2
    exact ⟨h2, i, j, q1, q3, by omega⟩
  obtain ⟨M, hMN, ⟨hM, i, j, hi, hj, hij⟩, hmin⟩ := least N hP
  have hbal : ∀ L, L < M → ∀ a b, a + L ≤ s.size → b + L ≤ s.size → win s L b ≤ win s L a + 1 := fun L hL a b ha hb => by
    apply Classical.byContradiction
    intro q
    exact hmin L hL ⟨by omega, a, b, ha, hb, by omega⟩
  have hM2 : 2 ≤ M := by
    apply Classical.byContradiction
    intro q
    have := win_le s M j hj
    omega
  obtain ⟨n, rfl⟩ : ∃ n, M = n + 2 := ⟨M - 2, by omega⟩
  have hsum : ∀ L, L ≤ n + 2 → ∀ a, a + (n + 2) ≤ s.size → win s (n + 2) a = win s L a + win s (n + 2 - L) (a + L) := fun L hL a ha => by
    have := win_split s L (n + 2 - L) a (by omega)
    rwa [show L + (n + 2 - L) = n + 2 by omega] at this
  have key : ∀ L, 1 ≤ L → L ≤ n + 1 → win s L j = win s L i + 1 ∧ win s (n + 2 - L) (j + L) = win s (n + 2 - L) (i + L) + 1 ∧ win s (n + 2) j = win s (n + 2) i + 2 := fun L h1 h2 => by
    have a1 := hsum L (by omega) i hi
    have a2 := hsum L (by omega) j hj
    have a3 := hbal L (by omega) i j (by omega) (by omega)
    have a4 := hbal (n + 2 - L) (by omega) (i + L) (j + L) (by omega) (by omega)
    omega
  refine ⟨n, i, j, hi, hj, fun L h1 h2 => ⟨(key L h1 h2).1, ?_⟩, (key 1 (by omega) (by omega)).2.2⟩
  have b1 := (key L h1 h2).1
  have b2 := (key (n + 2 - L) (by omega) (by omega)).2.1
  rw [show n + 2 - (n + 2 - L) = L by omega] at b2
  have b3 := hbal L (by omega) (i + (n + 2 - L)) j (by omega) (by omega)
  have b4 := hbal L (by omega) i (j + (n + 2 - L)) (by omega) (by omega)
  omega
/-! ### A word turned -/
theorem rev_sizeB (s : ByteArray) : (rev s).size = s.size := by
  show (revL s s.size).toArray.size = s.size
  rw [List.size_toArray, revL_len]
theorem bt_revB (s : ByteArray) (j : Nat) (h : j < s.size) : bt (rev s) j = bt s (s.size - 1 - j) := by
  rw [byteAt_bt (rev s) j (by rw [rev_sizeB]; exact h), byteAt_bt s (s.size - 1 - j) (by omega)]
  congr 2
  exact revL_at s s.size j h
theorem cb_rev (s : ByteArray) : ∀ i, i ≤ s.size → cb (rev s) i + cb s (s.size - i) = cb s s.size
  | 0, _ => by rw [cb_zero, Nat.zero_add, Nat.sub_zero]
  | i + 1, h => by
    have ih := cb_rev s i (by omega)
    have h1 := cb_next (rev s) i (by rw [rev_sizeB]; omega)
    have h2 := cb_next s (s.size - (i + 1)) (by omega)
    rw [show s.size - (i + 1) + 1 = s.size - i by omega] at h2
    rw [bt_revB s i (by omega), show s.size - 1 - i = s.size - (i + 1) by omega] at h1
    omega
theorem win_rev (s : ByteArray) (n i : Nat) (h : i + n ≤ s.size) : win (rev s) n i = win s n (s.size - i - n) := by
  have h1 := cb_rev s i (by omega)
  have h2 := cb_rev s (i + n) h
  have h3 := win_eq (rev s) n i (by rw [rev_sizeB]; exact h)
  have h4 := win_eq s n (s.size - i - n) (by omega)
  rw [show s.size - i - n + n = s.size - i by omega] at h4
  rw [show s.size - (i + n) = s.size - i - n by omega] at h2
  omega
theorem bal_rev {s : ByteArray} (hb : balP s) : balP (rev s) := by
  refine bal_of_win (fun n i j h1 hi hj => ?_)
  rw [rev_sizeB] at hi hj
  rw [win_rev s n i hi, win_rev s n j hj]
  exact win_of_bal hb n _ _ h1 (by omega) (by omega)
theorem bal_rev_iff (s : ByteArray) : balP (rev s) ↔ balP s := by
  refine ⟨fun h => ?_, bal_rev⟩
  refine bal_of_win (fun n i j h1 hi hj => ?_)
  have a := win_rev s n (s.size - i - n) (by omega)
  have b := win_rev s n (s.size - j - n) (by omega)
  rw [show s.size - (s.size - i - n) - n = i by omega] at a
  rw [show s.size - (s.size - j - n) - n = j by omega] at b
  rw [← a, ← b]
  exact win_of_bal h n _ _ h1 (by rw [rev_sizeB]; omega) (by rw [rev_sizeB]; omega)
end Go.Proofs.Ytilbhingfnjppab
