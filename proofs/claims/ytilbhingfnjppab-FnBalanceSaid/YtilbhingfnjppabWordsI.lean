/- Return words: the law. -/
import Derived.Test.YtilbhingfnjppabMWds
import Derived.Test.YtilbhingfnjppabMFra
set_option linter.unusedSimpArgs false
set_option linter.unusedVariables false
namespace Go.Proofs.Ytilbhingfnjppab
open Go.RowKit
theorem rowS_strs' {w : World} {B n : Nat} {x : Option Addr} {cap : Nat} {l : List ByteArray} (h : w.ownsRow B 9 1 (.slice x n cap) n (sv l)) (hz : ∀ z ∈ l, z.size ≤ maxLen) : IsStrs w x n cap l := by
  have hl : l.length = n := by have := h.1; simp [sv] at this; exact this
  subst hl
  exact rowS_strs h hz
theorem isStrs_grownBy {w w' : World} {x : Option Addr} {n cap : Nat} {zs : List ByteArray} {r : Option Nat} (h : IsStrs w x n cap zs) (hg : w.grownBy w' r) (hx : ∀ b off, x = some ⟨b, off, none⟩ → some b ≠ r) : IsStrs w' x n cap zs := by
  refine ⟨h.1, h.2.1, h.2.2.1, h.2.2.2.1, ?_⟩
  rcases h.2.2.2.2 with h0 | ⟨b, off, rfl, hlt, hc⟩
  · exact .inl h0
  · refine .inr ⟨b, off, rfl, Nat.lt_of_lt_of_le hlt hg.size, fun j hj => ?_⟩
    rw [hg.cell_far ⟨b, off + j, none⟩ hlt (hx b off rfl)]
    exact hc j hj
theorem own_apart {w w1 w2 : World} {n c1 c2 b off : Nat} {x1 x2 : Option Addr} {e : TypeId} {l1 l2 : List Value} (h1 : w1.ownsRow w.heap.size e 1 (.slice x1 n c1) n l1) (h2 : w2.ownsRow w1.heap.size e 1 (.slice x2 n c2) n l2) (hz : w.heap.size ≤ w1.heap.size) (e1 : x1 = some ⟨b, off, none⟩) : some b ≠ (Value.slice x2 n c2).ownBlock := by
  subst e1
  intro hk
  have := (h1.lt b rfl).2
  have := (h2.lt b hk.symm).1
  omega
end Go.Proofs.Ytilbhingfnjppab
