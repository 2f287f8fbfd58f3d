/- Chains: the reference's chain. -/
import Derived.Test.YtilbhingfnjppaaDoorChF
import Derived.Test.YtilbhingfnjppaaDoorMGold
set_option linter.unusedSimpArgs false
set_option linter.unusedVariables false
namespace Go.Proofs.YtilbhingfnjppaaDoor
open Go.RowKit
theorem own2_mono {w : World} {B B' : Nat} {e : TypeId} {v : Value} {n : Nat} {xs : List Value} (h : w.ownsRow B e 2 v n xs) (hb : B' ≤ B) : w.ownsRow B' e 2 v n xs := by
  refine ⟨h.1, ?_⟩
  rcases h.2 with h' | ⟨g, c, cur, h1, h2, h3⟩
  · exact .inl h'
  · exact .inr ⟨g, c, cur, h1, by omega, h3⟩
theorem own2_prefix {w : World} {B : Nat} {g N n c : Nat} {L : List GP} (h : w.ownsRow B 44 2 (.slice (some ⟨g, 0, none⟩) N c) N (gv L)) (hn : n ≤ N) : w.ownsRow B 44 2 (.slice (some ⟨g, 0, none⟩) n c) n (gv (L.take n)) := by
  have hl : L.length = N := by have := h.1; rw [gv_len] at this; omega
  rcases h.2 with ⟨h', _⟩ | ⟨g0, cap0, cur, he, hbg, hg, hnc, hcm, hcs, ht⟩
  · cases h'
  · cases he
    refine ⟨by rw [gv_len, List.length_take]; omega, .inr ⟨g, c, cur, rfl, hbg, hg, by omega, hcm, hcs, ?_⟩⟩
    have e : gv L = gv (L.take n) ++ gv (L.drop n) := by rw [← gv_app, List.take_append_drop]
    have hk : (gv (L.take n)).length = n * 2 := gv_takel hl hn
    have : cur.toList.take (n * 2) = (cur.toList.take (N * 2)).take (n * 2) := by rw [List.take_take, Nat.min_eq_left (by omega)]
    rw [this, ht, e]
    exact List.take_left' hk
end Go.Proofs.YtilbhingfnjppaaDoor
