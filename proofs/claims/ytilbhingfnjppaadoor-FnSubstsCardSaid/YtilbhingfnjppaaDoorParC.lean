/- Parents: plain laws of the row of ways, and of the steps of a parent. -/
import Derived.Test.YtilbhingfnjppaaDoorParA
set_option linter.unusedSimpArgs false
set_option linter.unusedVariables false
namespace Go.Proofs.YtilbhingfnjppaaDoor
open Go.RowKit
theorem getD_set_ne {l : List Int} {i j : Nat} {v : Int} (h : i ≠ j) : (l.set i v).getD j 0 = l.getD j 0 := by simp [List.getD_eq_getElem?_getD, List.getElem?_set, h]
theorem getD_set_eq {l : List Int} {i : Nat} {v : Int} (h : i < l.length) : (l.set i v).getD i 0 = v := by simp [List.getD_eq_getElem?_getD, List.getElem?_set, h]
theorem stp_other {s v : ByteArray} {p j : Nat} {xs : List Int} (h : p ≠ j) : (stp s p xs v).getD j 0 = xs.getD j 0 := by
  unfold stp; split
  · exact getD_set_ne h
  · rfl
theorem fold_other {s : ByteArray} {p j : Nat} (h : p ≠ j) : ∀ (zs : List ByteArray) (xs : List Int), (zs.foldl (stp s p) xs).getD j 0 = xs.getD j 0
  | [], _ => rfl
  | z :: zs, xs => by rw [List.foldl_cons, fold_other h zs, stp_other h]
/-- All numbers of a row lie from 0 to a million. -/
def low (xs : List Int) : Prop := ∀ j, 0 ≤ xs.getD j 0 ∧ xs.getD j 0 ≤ 1000000
theorem stp_low {s v : ByteArray} {p : Nat} {xs : List Int} (h : low xs) : low (stp s p xs v) := by
  intro j
  unfold stp; split
  · by_cases hj : p = j
    · subst hj
      by_cases hp : p < xs.length
      · rw [getD_set_eq hp]
        have h1 := h p
        have h2 := h (p + v.size)
        rw [IntWalk.wrap64_in _ (by omega)]; omega
      · rw [List.set_eq_of_length_le (by omega)]; exact h p
    · rw [getD_set_ne hj]; exact h j
  · exact h j
theorem fold_low {s : ByteArray} {p : Nat} : ∀ (zs : List ByteArray) (xs : List Int), low xs → low (zs.foldl (stp s p) xs)
  | [], _, h => h
  | z :: zs, xs, h => by rw [List.foldl_cons]; exact fold_low zs _ (stp_low h)
theorem wq_low (s : ByteArray) (zs : List ByteArray) : ∀ c, low (wq s zs c)
  | 0 => by
    intro j
    rw [wq]
    by_cases hj : s.size = j
    · subst hj; rw [getD_set_eq (by simp)]; omega
    · rw [getD_set_ne hj]; simp [List.getD_eq_getElem?_getD, List.getElem?_replicate]; split <;> simp
  | c + 1 => by rw [wq]; exact fold_low zs _ (wq_low s zs c)
/-- Where something comes of a step, an image begins there. -/
theorem stp_pos {s v : ByteArray} {p : Nat} {xs : List Int} (hl : low xs) (h : 0 < (stp s p xs v).getD p 0) (h1 : 1 ≤ v.size) : 0 < xs.getD p 0 ∨ (hitP s v p = true ∧ 0 < xs.getD (p + v.size) 0) := by
  unfold stp at h
  cases hh : hitP s v p
  · left; simpa [hh] using h
  · rw [hh, if_pos rfl] at h
    by_cases hp : p < xs.length
    · rw [getD_set_eq hp] at h
      have a1 := hl p
      have a2 := hl (p + v.size)
      rw [IntWalk.wrap64_in _ (by omega)] at h
      by_cases h0 : 0 < xs.getD p 0
      · exact .inl h0
      · right; exact ⟨rfl, by omega⟩
    · rw [List.set_eq_of_length_le (by omega)] at h; exact .inl h
theorem fold_pos {s : ByteArray} {p : Nat} : ∀ (zs : List ByteArray) (xs : List Int), low xs → (∀ v ∈ zs, 1 ≤ v.size) → 0 < (zs.foldl (stp s p) xs).getD p 0 → 0 < xs.getD p 0 ∨ ∃ v ∈ zs, hitP s v p = true ∧ 0 < xs.getD (p + v.size) 0
  | [], _, _, _, h => .inl h
  | z :: zs, xs, hl, hv, h => by
    rw [List.foldl_cons] at h
    rcases fold_pos zs _ (stp_low hl) (fun v q => hv v (by simp [q])) h with h | ⟨v, hvm, h1, h2⟩
    · rcases stp_pos hl h (hv z (by simp)) with h | ⟨h1, h2⟩
      · exact .inl h
      · exact .inr ⟨z, by simp, h1, h2⟩
    · right
      refine ⟨v, by simp [hvm], h1, ?_⟩
      rw [stp_other (by have := hv v (by simp [hvm]); omega)] at h2
      exact h2
theorem wq_zero (s : ByteArray) (zs : List ByteArray) : ∀ c j, j < s.size - c → (wq s zs c).getD j 0 = 0
  | 0, j, h => by rw [wq, getD_set_ne (by omega)]; simp [List.getD_eq_getElem?_getD, List.getElem?_replicate]; split <;> simp
  | c + 1, j, h => by rw [wq, fold_other (by omega)]; exact wq_zero s zs c j (by omega)
theorem wq_keep (s : ByteArray) (zs : List ByteArray) (c j : Nat) (h : s.size ≤ j + c) : ∀ m, (wq s zs (c + m)).getD j 0 = (wq s zs c).getD j 0 ∨ s.size < c + m
  | 0 => .inl rfl
  | m + 1 => by
    by_cases hb : s.size < c + (m + 1)
    · exact .inr hb
    · left
      rcases wq_keep s zs c j h m with h' | h'
      · rw [← h', show c + (m + 1) = (c + m) + 1 by omega, wq, fold_other (by omega)]
      · omega
theorem wys_at (s : ByteArray) (zs : List ByteArray) (c j : Nat) (hc : c ≤ s.size) (h : s.size ≤ j + c) : (wys s zs).getD j 0 = (wq s zs c).getD j 0 := by
  rcases wq_keep s zs c j h (s.size - c) with h' | h'
  · rw [← h', show c + (s.size - c) = s.size by omega]; rfl
  · omega
theorem wys_pos {s : ByteArray} {zs : List ByteArray} {p : Nat} (hv : ∀ v ∈ zs, 1 ≤ v.size) (hp : p < s.size) (h : 0 < (wys s zs).getD p 0) : ∃ v ∈ zs, hitP s v p = true ∧ 0 < (wys s zs).getD (p + v.size) 0 := by
  rw [wys_at s zs (s.size - p) p (by omega) (by omega), wq_next s zs p hp] at h
  rcases fold_pos zs _ (wq_low s zs _) hv h with h | ⟨v, hvm, h1, h2⟩
  · rw [wq_zero s zs _ p (by omega)] at h; omega
  · refine ⟨v, hvm, h1, ?_⟩
    have hv1 := hv v hvm
    rw [wys_at s zs (s.size - (p + 1)) (p + v.size) (by omega) (by omega)]
    exact h2
/-- An image may be taken at a place. -/
noncomputable def good (s : ByteArray) (F : List Int) (p : Nat) (v : ByteArray) : Bool := hitP s v p && decide (0 < F.getD (p + v.size) 0)
/-- The first image that may be taken. -/
noncomputable def ch (s : ByteArray) (zs : List ByteArray) (F : List Int) (p : Nat) : Nat := zs.findIdx (good s F p)
theorem ch_lt {s : ByteArray} {zs : List ByteArray} {F : List Int} {p : Nat} (h : ∃ v ∈ zs, good s F p v = true) : ch s zs F p < zs.length := List.findIdx_lt_length.2 h
theorem ch_is {s : ByteArray} {zs : List ByteArray} {F : List Int} {p k : Nat} (hk : k < zs.length) (h : good s F p (zs.getD k ByteArray.empty) = true) (hn : ∀ j, j < k → good s F p (zs.getD j ByteArray.empty) = false) : ch s zs F p = k := by
  unfold ch
  rw [List.findIdx_eq hk]
  refine ⟨by simpa [List.getD_eq_getElem?_getD, hk] using h, fun j hj => ?_⟩
  have := hn j hj
  simpa [List.getD_eq_getElem?_getD, show j < zs.length by omega] using this
noncomputable def nxt1 (s : ByteArray) (zs : List ByteArray) (F : List Int) (a : List UInt8 × Nat) : List UInt8 × Nat :=
  if a.2 < s.size then (a.1 ++ [97 + UInt8.ofNat (ch s zs F a.2)], a.2 + (zs.getD (ch s zs F a.2) ByteArray.empty).size) else a
noncomputable def its (s : ByteArray) (zs : List ByteArray) (F : List Int) : Nat → List UInt8 × Nat
  | 0 => ([], 0)
  | m + 1 => nxt1 s zs F (its s zs F m)
theorem its_stay {s : ByteArray} {zs : List ByteArray} {F : List Int} {m : Nat} (h : s.size ≤ (its s zs F m).2) : ∀ j, its s zs F (m + j) = its s zs F m
  | 0 => rfl
  | j + 1 => by rw [show m + (j + 1) = (m + j) + 1 by omega, its, its_stay h j, nxt1, if_neg (by omega)]
theorem its_end {s : ByteArray} {zs : List ByteArray} {F : List Int} {m : Nat} (h : s.size ≤ (its s zs F m).2) (hm : m ≤ s.size) : (its s zs F s.size).1 = (its s zs F m).1 := by
  have := its_stay h (s.size - m)
  rw [show m + (s.size - m) = s.size by omega] at this
  rw [this]
theorem its_next {s : ByteArray} {zs : List ByteArray} {F : List Int} {m k p : Nat} {acc : List UInt8} (h : its s zs F m = (acc, p)) (hp : p < s.size) (hk : ch s zs F p = k) : its s zs F (m + 1) = (acc ++ [97 + UInt8.ofNat k], p + (zs.getD k ByteArray.empty).size) := by
  rw [its, h, nxt1, if_pos (by exact hp)]; simp only [hk]
/-- The parent, as letters. -/
noncomputable def par (s : ByteArray) (zs : List ByteArray) : List UInt8 := (its s zs (wys s zs) s.size).1
end Go.Proofs.YtilbhingfnjppaaDoor
