/- The walks of the laws' own functions on slices of strings. -/
import Derived.Test.YtilbhingfnjppabBytes
import Derived.Test.YtilbhingfnjppabRowIn
import Derived.Deep.QuietTactic
import Derived.BigQuiet
set_option linter.unusedSimpArgs false
set_option linter.unusedVariables false
namespace Go.Proofs.Ytilbhingfnjppab
open Go.RowKit
theorem infoS : (Try.prog.info? 9).map (fun i => (i.zero, i.size, i.bytes)) = some (some (.string ⟨#[]⟩), 1, 16) := by kernel_rfl
/-- How many letters the strings hold together. -/
def tot (zs : List ByteArray) : Nat := (zs.map ByteArray.size).sum
theorem take_next {α : Type} (l : List α) (k : Nat) (d : α) (h : k < l.length) : l.take (k + 1) = l.take k ++ [l.getD k d] := by
  rw [← List.take_append_getElem h]; simp [List.getD_eq_getElem?_getD, h]
theorem tot_take {zs : List ByteArray} {k : Nat} (h : k < zs.length) : tot (zs.take (k + 1)) = tot (zs.take k) + (zs.getD k ByteArray.empty).size := by
  unfold tot
  rw [take_next zs k ByteArray.empty h, List.map_append, List.sum_append]
  simp
theorem size_le {zs : List ByteArray} (h : ∀ s ∈ zs, s.size ≤ maxLen) (k : Nat) : (zs.getD k ByteArray.empty).size ≤ maxLen := by
  by_cases hk : k < zs.length
  · have : zs.getD k ByteArray.empty ∈ zs := by simp [List.getD_eq_getElem?_getD, hk]
    exact h _ this
  · rw [List.getD_eq_getElem?_getD, List.getElem?_eq_none (by omega)]; exact Nat.zero_le _
theorem isStrs_cell {w : World} {x : Option Addr} {n cap : Nat} {zs : List ByteArray} (h : IsStrs w x n cap zs) (h0 : 0 < n) : ∃ b off, x = some ⟨b, off, none⟩ ∧ b < w.heap.size ∧ ∀ j, j < n → w.cell? ⟨b, off + j, none⟩ = some (.string (zs.getD j ByteArray.empty)) := by
  rcases h.2.2.2.2 with h | h
  · omega
  · exact h
theorem isStrs_below {w w' : World} {x : Option Addr} {n cap : Nat} {zs : List ByteArray} (h : IsStrs w x n cap zs) {B : Nat} (hB : w.heap.size ≤ B) (hb : Below B w w') : IsStrs w' x n cap zs := by
  refine ⟨h.1, h.2.1, h.2.2.1, h.2.2.2.1, ?_⟩
  rcases h.2.2.2.2 with h0 | ⟨b, off, rfl, hlt, hc⟩
  · exact .inl h0
  · exact .inr ⟨b, off, rfl, Nat.lt_of_lt_of_le hlt hb.size, fun j hj => (hb.cell (by show b < B; omega)).trans (hc j hj)⟩
theorem isStrs_own {w : World} {B g n cap : Nat} {zs : List ByteArray} (h : w.ownsRow B 9 1 (.slice (some ⟨g, 0, none⟩) n cap) n (sv zs)) (hz : ∀ s ∈ zs, s.size ≤ maxLen) : IsStrs w (some ⟨g, 0, none⟩) n cap zs := by
  have hl : zs.length = n := by have := h.1; simp [sv] at this; exact this
  have hcap : n ≤ cap ∧ cap ≤ maxLen := by
    rcases h.2 with ⟨h', _⟩ | ⟨_, _, _, h', _, _, hc, hm, _⟩
    · cases h'
    · cases h'; exact ⟨hc, hm⟩
  refine ⟨hl, hcap.1, hcap.2, hz, .inr ⟨g, 0, rfl, (h.lt g rfl).2, fun j hj => ?_⟩⟩
  rw [Nat.zero_add, own_cell h j hj, sv_at _ _ (by omega)]
end Go.Proofs.Ytilbhingfnjppab
