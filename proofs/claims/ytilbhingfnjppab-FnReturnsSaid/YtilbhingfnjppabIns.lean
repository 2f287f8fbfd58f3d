/- A string put into an ascending list: the plain law. -/
import Derived.Test.YtilbhingfnjppabBytes
import Derived.Sort.Walk0
set_option linter.unusedSimpArgs false
set_option linter.unusedVariables false
namespace Go.Proofs.Ytilbhingfnjppab
open Go.RowKit
/-- The order of strings, byte by byte. -/
def sl (a b : ByteArray) : Prop := a.toList < b.toList
theorem sl_irr (a : ByteArray) : ¬ sl a a := List.lt_irrefl a.toList
theorem sl_tr {a b c : ByteArray} (h1 : sl a b) (h2 : sl b c) : sl a c := List.lt_trans h1 h2
theorem same_of {a b : ByteArray} (h : a.toList = b.toList) : a = b := by
  rw [ByteArray.toList_eq, ByteArray.toList_eq] at h
  cases a; cases b; simp at h; rw [h]
theorem sl_tri (a b : ByteArray) : sl a b ∨ a = b ∨ sl b a := by
  rcases Classical.em (a.toList < b.toList) with h | h
  · exact .inl h
  · rcases Classical.em (b.toList < a.toList) with h' | h'
    · exact .inr (.inr h')
    · exact .inr (.inl (same_of (List.le_antisymm (List.not_lt.1 h') (List.not_lt.1 h))))
/-- z > x, as a walk spells it. -/
def gtB (z x : ByteArray) : Bool := !(Op.bytesLess z.toList x.toList || z.toList == x.toList)
theorem gtB_iff (z x : ByteArray) : gtB z x = true ↔ sl x z := by
  unfold gtB
  rw [bytesLess_eq]
  simp only [Bool.not_eq_true', Bool.or_eq_false_iff, decide_eq_false_iff_not, beq_eq_false_iff_ne]
  constructor
  · rintro ⟨h1, h2⟩
    rcases sl_tri x z with h | h | h
    · exact h
    · exact absurd (by rw [h]) h2
    · exact absurd h h1
  · intro h
    exact ⟨fun q => sl_irr _ (sl_tr h q), fun q => by have := same_of q; subst this; exact sl_irr _ h⟩
/-- Behind how many of the first k the string belongs. -/
def kkf (L : List ByteArray) (x : ByteArray) : Nat → Nat
  | 0 => 0
  | k + 1 => if gtB (L.getD k ByteArray.empty) x then kkf L x k else k + 1
theorem kkf_le (L : List ByteArray) (x : ByteArray) : ∀ n, kkf L x n ≤ n
  | 0 => Nat.le_refl _
  | n + 1 => by
    have := kkf_le L x n
    unfold kkf; split <;> omega
theorem kkf_above (L : List ByteArray) (x : ByteArray) : ∀ n j, kkf L x n ≤ j → j < n → gtB (L.getD j ByteArray.empty) x = true
  | 0, j, _, h => absurd h (by omega)
  | n + 1, j, h1, h2 => by
    by_cases hg : gtB (L.getD n ByteArray.empty) x = true
    · rw [kkf, if_pos hg] at h1
      by_cases e : j = n
      · subst e; exact hg
      · exact kkf_above L x n j h1 (by omega)
    · rw [kkf, if_neg hg] at h1; omega
theorem kkf_at (L : List ByteArray) (x : ByteArray) : ∀ n, 0 < kkf L x n → gtB (L.getD (kkf L x n - 1) ByteArray.empty) x = false
  | 0, h => absurd h (by simp [kkf])
  | n + 1, h => by
    by_cases hg : gtB (L.getD n ByteArray.empty) x = true
    · rw [kkf, if_pos hg] at h ⊢
      exact kkf_at L x n h
    · rw [kkf, if_neg hg]; simpa using hg
def hasAt (L : List ByteArray) (x : ByteArray) : Bool := decide (0 < kkf L x L.length) && ((L.getD (kkf L x L.length - 1) ByteArray.empty).toList == x.toList)
def lins (L : List ByteArray) (x : ByteArray) : List ByteArray := if hasAt L x then L else (L.take (kkf L x L.length) ++ [x]) ++ L.drop (kkf L x L.length)
def asc (L : List ByteArray) : Prop := L.Pairwise sl
theorem mem_getD {L : List ByteArray} {z : ByteArray} (h : z ∈ L) : ∃ j, j < L.length ∧ L.getD j ByteArray.empty = z := by
  obtain ⟨j, hj, e⟩ := List.getElem_of_mem h
  exact ⟨j, hj, by simp [List.getD_eq_getElem?_getD, hj, e]⟩
theorem asc_at {L : List ByteArray} (h : asc L) {i j : Nat} (hij : i < j) (hj : j < L.length) : sl (L.getD i ByteArray.empty) (L.getD j ByteArray.empty) := by
  have := List.pairwise_iff_getElem.1 h i j (by omega) hj hij
  simpa [List.getD_eq_getElem?_getD, hj, show i < L.length by omega] using this
theorem lins_asc {L : List ByteArray} (h : asc L) (x : ByteArray) : asc (lins L x) ∧ ∀ z, z ∈ lins L x ↔ z = x ∨ z ∈ L := by
  unfold lins
  by_cases hh : hasAt L x = true
  · rw [if_pos hh]
    refine ⟨h, fun z => ⟨fun q => .inr q, fun q => ?_⟩⟩
    rcases q with rfl | q
    · simp only [hasAt, Bool.and_eq_true, decide_eq_true_eq, beq_iff_eq] at hh
      have hk := kkf_le L z L.length
      have := same_of hh.2
      rw [← this]
      rw [List.getD_eq_getElem?_getD, List.getElem?_eq_getElem (by omega)]
      exact List.getElem_mem _
    · exact q
  · rw [if_neg hh]
    have hk := kkf_le L x L.length
    have hab := kkf_above L x L.length
    have hat := kkf_at L x L.length
    obtain ⟨k, hkk⟩ : ∃ k, kkf L x L.length = k := ⟨_, rfl⟩
    simp only [hasAt, hkk, Bool.and_eq_true, decide_eq_true_eq, beq_iff_eq, not_and] at hh
    rw [hkk] at hk hab hat ⊢
    have hlow : ∀ j, j < k → sl (L.getD j ByteArray.empty) x := by
      intro j hj
      have h1 : sl (L.getD (k - 1) ByteArray.empty) x := by
        have h2 := hat (by omega)
        rcases sl_tri (L.getD (k - 1) ByteArray.empty) x with q | q | q
        · exact q
        · exact absurd (by rw [q]) (hh (by omega))
        · rw [(gtB_iff _ _).2 q] at h2; cases h2
      by_cases e : j = k - 1
      · subst e; exact h1
      · exact sl_tr (asc_at h (show j < k - 1 by omega) (by omega)) h1
    have hup : ∀ j, k ≤ j → j < L.length → sl x (L.getD j ByteArray.empty) := fun j h1 h2 => (gtB_iff _ _).1 (hab j h1 h2)
    have hmt : ∀ z ∈ L.take k, sl z x := by
      intro z hz
      obtain ⟨j, hj, e⟩ := List.getElem_of_mem hz
      have hjk : j < k := by simp at hj; omega
      have := hlow j hjk
      rw [List.getElem_take] at e
      rw [show L.getD j ByteArray.empty = z by simp [List.getD_eq_getElem?_getD, show j < L.length by omega, e]] at this
      exact this
    have hmd : ∀ z ∈ L.drop k, sl x z := by
      intro z hz
      obtain ⟨j, hj, e⟩ := List.getElem_of_mem hz
      simp at hj
      have := hup (k + j) (by omega) (by omega)
      rw [List.getElem_drop] at e
      rw [show L.getD (k + j) ByteArray.empty = z by simp [List.getD_eq_getElem?_getD, show k + j < L.length by omega, e]] at this
      exact this
    refine ⟨?_, fun z => ?_⟩
    · unfold asc
      rw [List.pairwise_append, List.pairwise_append]
      refine ⟨⟨List.Pairwise.sublist (List.take_sublist _ _) h, by simp, fun a ha b hb => by simp at hb; subst hb; exact hmt a ha⟩, List.Pairwise.sublist (List.drop_sublist _ _) h, fun a ha b hb => ?_⟩
      rw [List.mem_append] at ha
      rcases ha with ha | ha
      · exact sl_tr (hmt a ha) (hmd b hb)
      · simp at ha; subst ha; exact hmd b hb
    · rw [List.mem_append, List.mem_append]
      have : z ∈ L ↔ z ∈ L.take k ∨ z ∈ L.drop k := by
        conv => lhs; rw [← List.take_append_drop k L]
        rw [List.mem_append]
      rw [this, List.mem_singleton]
      constructor
      · rintro ((h | h) | h)
        · exact .inr (.inl h)
        · exact .inl h
        · exact .inr (.inr h)
      · rintro (h | h | h)
        · exact .inl (.inr h)
        · exact .inl (.inl h)
        · exact .inr h
/-- Two ascending lists of the same members are one. -/
theorem asc_eq : ∀ {L M : List ByteArray}, asc L → asc M → (∀ z, z ∈ L ↔ z ∈ M) → L = M
  | [], [], _, _, _ => rfl
  | [], b :: M, _, _, h => by have := (h b).2 (by simp); simp at this
  | a :: L, [], _, _, h => by have := (h a).1 (by simp); simp at this
  | a :: L, b :: M, hL, hM, h => by
    have hL' := List.pairwise_cons.1 hL
    have hM' := List.pairwise_cons.1 hM
    have hab : a = b := by
      have h1 := (h a).1 (by simp)
      have h2 := (h b).2 (by simp)
      simp only [List.mem_cons] at h1 h2
      rcases h1 with h1 | h1
      · exact h1
      · rcases h2 with h2 | h2
        · exact h2.symm
        · exact absurd (sl_tr (hM'.1 a h1) (hL'.1 b h2)) (sl_irr _)
    subst hab
    congr 1
    refine asc_eq hL'.2 hM'.2 (fun z => ?_)
    have hz := h z
    simp only [List.mem_cons] at hz
    constructor
    · intro q
      rcases hz.1 (.inr q) with e | e
      · subst e; exact absurd (hL'.1 z q) (sl_irr _)
      · exact e
    · intro q
      rcases hz.2 (.inr q) with e | e
      · subst e; exact absurd (hM'.1 z q) (sl_irr _)
      · exact e
theorem lins_len (L : List ByteArray) (x : ByteArray) : (lins L x).length = if hasAt L x then L.length else L.length + 1 := by
  unfold lins
  have := kkf_le L x L.length
  split
  · rfl
  · simp; omega
end Go.Proofs.Ytilbhingfnjppab
