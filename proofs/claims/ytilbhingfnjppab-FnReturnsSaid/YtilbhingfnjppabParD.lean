/- Parents: the walks. -/
import Derived.Test.YtilbhingfnjppabParC
import Derived.Test.YtilbhingfnjppabWordsH
set_option linter.unusedSimpArgs false
set_option linter.unusedVariables false
namespace Go.Proofs.Ytilbhingfnjppab
open Go.RowKit
theorem its_len (s : ByteArray) (zs : List ByteArray) (F : List Int) : ∀ m, (its s zs F m).1.length ≤ m
  | 0 => by simp [its]
  | m + 1 => by
    have := its_len s zs F m
    rw [its, nxt1]; split
    · simp; omega
    · omega
noncomputable def paV (zs : List ByteArray) (s : ByteArray) : Value := if (wys s zs).getD 0 0 = 0 then .tuple #[.string ⟨#[]⟩, .bool false] else .tuple #[.string ⟨(par s zs).toArray⟩, .bool true]
theorem pa_no {zs : List ByteArray} {s : ByteArray} (h : (wys s zs).getD 0 0 = 0) : paV zs s = .tuple #[.string ⟨#[]⟩, .bool false] := by simp only [paV]; rw [if_pos h]
theorem pa_yes {zs : List ByteArray} {s : ByteArray} (h : ¬ (wys s zs).getD 0 0 = 0) : paV zs s = .tuple #[.string ⟨(par s zs).toArray⟩, .bool true] := by simp only [paV]; rw [if_neg h]
theorem u8_letter (k : Nat) (h : k < 4) : IntKind.u8.wrap (97 + (k : Int)) = ((97 + UInt8.ofNat k).toNat : Int) := by
  match k, h with
  | 0, _ => rfl
  | 1, _ => rfl
  | 2, _ => rfl
  | 3, _ => rfl
theorem some_good {s : ByteArray} {zs : List ByteArray} {n p : Nat} (hl : zs.length = n) (hv : ∀ v ∈ zs, 1 ≤ v.size) (hp : p < s.size) (h : 0 < (wys s zs).getD p 0) (hn : ∀ j, j < n → good s (wys s zs) p (zs.getD j ByteArray.empty) = false) : False := by
  obtain ⟨v, hvm, h1, h2⟩ := wys_pos hv hp h
  obtain ⟨j, hj, e⟩ := List.getElem_of_mem hvm
  have := hn j (by omega)
  rw [show zs.getD j ByteArray.empty = v by simp [List.getD_eq_getElem?_getD, hj, e]] at this
  simp [good, h1] at this
  simp [List.getD_eq_getElem?_getD] at h2
  omega
theorem ge1_of {zs : List ByteArray} (h : sB zs = true) : ∀ v ∈ zs, 1 ≤ v.size := by
  intro v hv
  obtain ⟨j, hj, e⟩ := List.getElem_of_mem hv
  have := ((s_of h).2 j hj).1.1
  rw [show zs.getD j ByteArray.empty = v by simp [List.getD_eq_getElem?_getD, hj, e]] at this
  exact this
end Go.Proofs.Ytilbhingfnjppab
