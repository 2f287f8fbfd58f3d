/- A map of the call's own that says which strings were seen. -/
import Derived.Test.YtilbhingfnjppabBase
import Derived.Maps.OwnSet
import Derived.Maps.Views
import Derived.WideMake
set_option linter.unusedSimpArgs false
set_option linter.unusedVariables false
namespace Go.Proofs.Ytilbhingfnjppab
open Go.RowKit
open Go.ChangeMaps Go.MapKept
open Go.Maps (Keyed)
theorem keyS : Keyed Try.prog 9 := Maps.string_keyed Try.underlying9
open Classical in
noncomputable def memB (S : List ByteArray) (z : ByteArray) : Bool := decide (z ∈ S)
theorem memB_iff (S : List ByteArray) (z : ByteArray) : memB S z = true ↔ z ∈ S := by simp [memB]
/-- Block b holds which strings of S were seen. -/
def MS (w : World) (b m : Nat) (S : List ByteArray) : Prop :=
  ∃ D : DataW Unit, w.ownsMap Try.prog 9 (plainElem Try.prog 4) b m D ∧ ∀ z : ByteArray, z.size ≤ maxLen → D.atKey (.string z.data.toList) (.lit (.bool false)) = .lit (.bool (memB S z))
theorem ms_made (w : World) : MS (w.alloc (.map #[] 0)) w.heap.size 0 [] :=
  ⟨.map [], World.ownsMap_made w Try.prog 9 _, fun z _ => by simp [memB]; rfl⟩
theorem ms_kept {w w' : World} {b m : Nat} {S : List ByteArray} {row : Option Nat} (h : MS w b m S) (hg : w.grownBy w' row) (hne : some b ≠ row) : MS w' b m S := by
  obtain ⟨D, h1, h2⟩ := h
  exact ⟨D, h1.kept hg hne, h2⟩
theorem ms_lt {w : World} {b m : Nat} {S : List ByteArray} (h : MS w b m S) : b < w.heap.size := by
  obtain ⟨D, h1, _⟩ := h; exact h1.lt
theorem key_ne {y z : ByteArray} (h : y ≠ z) : (Lit.string y.data.toList) ≠ (Lit.string z.data.toList) := by
  intro e
  injection e with e
  apply h
  cases y; cases z; simp at e; rw [e]
theorem ms_look {w : World} {b m : Nat} {S : List ByteArray} (h : MS w b m S) (z : ByteArray) (hz : z.size ≤ maxLen) :
    (Instr.lookup 86 (.map (some b)) (.string z) false).run Try.prog w = .ok (.bool (memB S z)) w := by
  obtain ⟨D, h1, h2⟩ := h
  obtain ⟨v, ps, hrun, hv⟩ := h1.lookup keyS Try.underlying86 (Try.zeroValue4 w) (plainElem_bool Try.underlying4 false) (WideMaps.keyOf_string_mk (P := Try.prog) Try.underlying9 hz)
  rw [h2 z hz] at hv
  cases v <;> simp [plainElem, Try.underlying4] at hv
  rename_i b'
  rw [hrun, hv.1]
theorem ms_put {w : World} {b m : Nat} {S : List ByteArray} (h : MS w b m S) (hm : m < maxLen) (z : ByteArray) (hz : z.size ≤ maxLen) :
    ∃ w', (Instr.mapUpdate 86 (.map (some b)) (.string z) (.bool true)).run Try.prog w = .ok () w' ∧ MS w' b (m + 1) (S ++ [z]) ∧ w.grownBy w' (some b) := by
  obtain ⟨D, h1, h2⟩ := h
  obtain ⟨w', hrun, h3, h4⟩ := h1.update keyS Try.underlying86 hm (WideMaps.keyOf_string_mk (P := Try.prog) Try.underlying9 hz) (plainElem_bool Try.underlying4 true)
  refine ⟨w', hrun, ⟨_, h3, fun y hy => ?_⟩, h4⟩
  by_cases e : y = z
  · subst e
    rw [Maps.atKey_put_same h1.isMap (keyS.key (WideMaps.keyOf_string_mk (P := Try.prog) Try.underlying9 hz))]
    simp [memB]
  · rw [Maps.atKey_put_other (key_ne e), h2 y hy]
    simp [memB, e]
end Go.Proofs.Ytilbhingfnjppab
