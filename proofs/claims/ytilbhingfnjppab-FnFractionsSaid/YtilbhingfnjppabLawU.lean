/- The walks of the laws' own functions on slices of integers. -/
import Derived.Test.YtilbhingfnjppabLawT
set_option linter.unusedSimpArgs false
set_option linter.unusedVariables false
namespace Go.Proofs.Ytilbhingfnjppab
open Go.RowKit
/-- A slice of integers, wherever it lies. -/
def RI (w : World) (x : Option Addr) (n : Nat) (zs : List Int) : Prop :=
  zs.length = n ∧ n ≤ 9223372036854775807 ∧ (n = 0 ∨ ∃ b off, x = some ⟨b, off, none⟩ ∧ b < w.heap.size ∧ ∀ j, j < n → w.cell? ⟨b, off + j, none⟩ = some (.int .i64 (zs.getD j 0)))
theorem rI_cell {w : World} {x : Option Addr} {n : Nat} {zs : List Int} (h : RI w x n zs) (h0 : 0 < n) : ∃ b off, x = some ⟨b, off, none⟩ ∧ b < w.heap.size ∧ ∀ j, j < n → w.cell? ⟨b, off + j, none⟩ = some (.int .i64 (zs.getD j 0)) := by
  rcases h.2.2 with h | h
  · omega
  · exact h
theorem rI_below {w w' : World} {x : Option Addr} {n : Nat} {zs : List Int} (h : RI w x n zs) {B : Nat} (hB : w.heap.size ≤ B) (hb : Below B w w') : RI w' x n zs := by
  refine ⟨h.1, h.2.1, ?_⟩
  rcases h.2.2 with h0 | ⟨b, off, rfl, hlt, hc⟩
  · exact .inl h0
  · exact .inr ⟨b, off, rfl, Nat.lt_of_lt_of_le hlt hb.size, fun j hj => (hb.cell (by show b < B; omega)).trans (hc j hj)⟩
theorem rI_grownBy {w w' : World} {x : Option Addr} {n : Nat} {zs : List Int} {r : Option Nat} (h : RI w x n zs) (hg : w.grownBy w' r) (hx : ∀ b off, x = some ⟨b, off, none⟩ → some b ≠ r) : RI w' x n zs := by
  refine ⟨h.1, h.2.1, ?_⟩
  rcases h.2.2 with h0 | ⟨b, off, rfl, hlt, hc⟩
  · exact .inl h0
  · refine .inr ⟨b, off, rfl, Nat.lt_of_lt_of_le hlt hg.size, fun j hj => ?_⟩
    rw [hg.cell_far ⟨b, off + j, none⟩ hlt (hx b off rfl)]
    exact hc j hj
theorem rI_own {w : World} {B n cap : Nat} {x : Option Addr} {zs : List Int} (h : w.ownsRow B 3 1 (.slice x n cap) n (iv zs)) (hn : n ≤ 9223372036854775807) : RI w x n zs := by
  have hl : zs.length = n := by have := h.1; simp [iv] at this; exact this
  refine ⟨hl, hn, ?_⟩
  by_cases h0 : n = 0
  · exact .inl h0
  · right
    obtain ⟨g, c, e, hg1, hg2⟩ := World.ownsRow.form h (by omega)
    cases e
    exact ⟨g, 0, rfl, hg2, fun j hj => by rw [Nat.zero_add, own_cell h j hj, iv_at _ _ (by omega)]⟩
/-- The numbers from k on. -/
def mi (k n : Nat) : List Int := (List.range n).map (fun j => ((k + j : Nat) : Int))
theorem mi_len (k n : Nat) : (mi k n).length = n := by simp [mi]
theorem mi_at (k n j : Nat) (h : j < n) : (mi k n).getD j 0 = (k : Int) + j := by simp [mi, List.getD_eq_getElem?_getD, h]
theorem markI_set (zs : List Int) (k j n : Nat) (hz : zs.length = n) (h : j < n) : (mi k j ++ zs.drop j).set j ((k : Int) + j) = mi k (j + 1) ++ zs.drop (j + 1) := by
  rw [List.set_append_right _ _ (by rw [mi_len]; exact Nat.le_refl _), mi_len, Nat.sub_self, List.drop_eq_getElem_cons (by omega), List.set_cons_zero]
  simp [mi, List.range_succ]
end Go.Proofs.Ytilbhingfnjppab
