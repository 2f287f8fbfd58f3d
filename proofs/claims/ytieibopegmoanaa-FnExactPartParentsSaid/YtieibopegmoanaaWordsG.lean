/- Return words and the longest of them: the walks and the law. -/
import Derived.Test.YtieibopegmoanaaWordsF
set_option linter.unusedSimpArgs false
set_option linter.unusedVariables false
namespace Go.Proofs.Ytieibopegmoanaa
open Go.RowKit
theorem R_nil {s f : ByteArray} (h : (P s f).length = 0) : R s f = [] := by unfold R; rw [h]; rfl
theorem R_len (s f : ByteArray) (hs : s.size ≤ 9223372036854775807) : (R s f).length ≤ 401 := by
  unfold R; rw [rt_len]
  cases hp : pOk s f
  · rw [P_no hp]; simp
  · have := pl_len400 (f := f) (isW_of (pOk_true hp).1).1; omega
theorem R_small (s f : ByteArray) (hs : s.size ≤ 9223372036854775807) : ∀ z ∈ R s f, z.size ≤ maxLen := rt_small hs _ _
theorem pOk_of {s f : ByteArray} (h : (P s f).length ≠ 0) : pOk s f = true := by
  cases hp : pOk s f
  · rw [P_no hp] at h; simp at h
  · rfl
/-- The greatest size. -/
def mx (l : List ByteArray) : Nat := l.foldl (fun m z => max m z.size) 0
theorem mx_next (l : List ByteArray) (x : ByteArray) : mx (l ++ [x]) = max (mx l) x.size := by simp [mx]
theorem mx_spec (l : List ByteArray) : ∀ m : Nat, (m ≤ l.foldl (fun m z => max m z.size) m ∧ ∀ z ∈ l, z.size ≤ l.foldl (fun m z => max m z.size) m) ∧ (l.foldl (fun m z => max m z.size) m = m ∨ ∃ z ∈ l, z.size = l.foldl (fun m z => max m z.size) m) := by
  induction l with
  | nil => intro m; simp
  | cons a l ih =>
    intro m
    obtain ⟨⟨h1, h2⟩, h3⟩ := ih (max m a.size)
    simp only [List.foldl_cons]
    refine ⟨⟨by omega, fun z hz => ?_⟩, ?_⟩
    · rcases List.mem_cons.1 hz with rfl | hz
      · omega
      · exact h2 z hz
    · rcases h3 with h3 | ⟨z, hz, h3⟩
      · by_cases hm : a.size ≤ m
        · left; omega
        · right; exact ⟨a, by simp, by omega⟩
      · right; exact ⟨z, by simp [hz], h3⟩
theorem mx_dd (l : List ByteArray) : mx (dd l) = mx l := by
  obtain ⟨⟨_, h2⟩, h3⟩ := mx_spec l 0
  obtain ⟨⟨_, k2⟩, k3⟩ := mx_spec (dd l) 0
  change ∀ z ∈ l, z.size ≤ mx l at h2
  change mx l = 0 ∨ ∃ z ∈ l, z.size = mx l at h3
  change ∀ z ∈ dd l, z.size ≤ mx (dd l) at k2
  change mx (dd l) = 0 ∨ ∃ z ∈ dd l, z.size = mx (dd l) at k3
  have a1 : mx l ≤ mx (dd l) := by
    rcases h3 with h | ⟨z, hz, h⟩
    · omega
    · have := k2 z ((mem_dd l z).2 hz); omega
  have a2 : mx (dd l) ≤ mx l := by
    rcases k3 with h | ⟨z, hz, h⟩
    · omega
    · have := h2 z ((mem_dd l z).1 hz); omega
  omega
noncomputable def lrV (s f : ByteArray) : Int := if (P s f).length = 0 then -1 else (mx (R s f) : Nat)
end Go.Proofs.Ytieibopegmoanaa
