/- A string put into an ascending list: the walk. -/
import Derived.Test.YtilbhingfnjppabIns
import Derived.Test.YtilbhingfnjppabLawT
import Derived.Maps.AppendAt
import Derived.Laws.Cover1
set_option linter.unusedSimpArgs false
set_option linter.unusedVariables false
namespace Go.Proofs.Ytilbhingfnjppab
open Go.RowKit
theorem gtr_B (t : TypeId) (a b : ByteArray) : binOp .gtr t (.string a) (.string b) = pure (.bool (gtB a b)) := by rw [binOp_string_gtr]; rfl
attribute [-go_sem] binOp_string_gtr
attribute [local go_sem] gtr_B
theorem news_take {w : World} {g n K : Nat} {L : List ByteArray} (hc : ∀ j, j < n → w.cell? ⟨g, j, none⟩ = some (.string (L.getD j ByteArray.empty))) (hlen : L.length = n) (hK : K ≤ n) : ∀ j u, (sv (L.take K))[j]? = some u → w.cell? ((⟨g, 0, none⟩ : Addr).add j) = some u := by
  intro j u hu
  have hj : j < K := by
    by_cases h : j < K
    · exact h
    · rw [List.getElem?_eq_none (by simp [sv]; omega)] at hu; cases hu
  rw [sv_at _ _ (by simp; omega), getD_take _ _ _ _ hj] at hu
  rw [Addr.add_lit, Nat.zero_add, hc j (by omega)]; exact hu
theorem news_drop {w : World} {g n K : Nat} {L : List ByteArray} (hc : ∀ j, j < n → w.cell? ⟨g, j, none⟩ = some (.string (L.getD j ByteArray.empty))) (hlen : L.length = n) (hK : K ≤ n) : ∀ j u, (sv (L.drop K))[j]? = some u → w.cell? ((⟨g, K, none⟩ : Addr).add j) = some u := by
  intro j u hu
  have hj : K + j < n := by
    by_cases h : K + j < n
    · exact h
    · rw [List.getElem?_eq_none (by simp [sv]; omega)] at hu; cases hu
  rw [sv_at _ _ (by simp; omega)] at hu
  rw [Addr.add_lit, hc (K + j) hj]
  rw [← hu]; simp [List.getD_eq_getElem?_getD]
theorem sv_one (l : List ByteArray) : ∀ u ∈ sv l, u.oneCell' = true := by intro u hu; obtain ⟨z, _, rfl⟩ := List.mem_map.1 hu; rfl
theorem app_form {w1 : World} {B H W n0 c0 N m : Nat} {e : TypeId} {v' : Value} {xs : List Value} (hown : w1.ownsRow B e 1 v' N xs) (hnil : v' = .slice none 0 0 ↔ (Value.slice (some ⟨H, 0, none⟩) n0 c0) = .slice none 0 0 ∧ m = 0) (hat : v'.ownBlock = some H ∨ v'.ownBlock = some W) : ∃ g1 c1, v' = .slice (some ⟨g1, 0, none⟩) N c1 ∧ (g1 = H ∨ g1 = W) := by
  rcases hown.2 with ⟨h', _⟩ | ⟨g1, c1, _, h', _⟩
  · exact absurd (hnil.1 h').1 (by simp)
  · subst h'
    exact ⟨g1, c1, rfl, by simpa [Value.ownBlock] using hat⟩
theorem far_hid {w w' : World} {g H n : Nat} {L : List ByteArray} (h : Hid (∀ j, j < n → w.cell? ⟨g, j, none⟩ = some (.string (L.getD j ByteArray.empty)))) (hg : w.grownBy w' (some H)) (hl : g < w.heap.size) (hne : g ≠ H) : Hid (∀ j, j < n → w'.cell? ⟨g, j, none⟩ = some (.string (L.getD j ByteArray.empty))) :=
  fun j hj => (hg.cell_far ⟨g, j, none⟩ hl (by simp; omega)).trans (h.out j hj)
end Go.Proofs.Ytilbhingfnjppab
