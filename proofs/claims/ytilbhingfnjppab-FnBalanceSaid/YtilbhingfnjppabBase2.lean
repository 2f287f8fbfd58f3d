/- More small laws: appends to the call's own slices, elements' rows of the table. -/
import Derived.Test.YtilbhingfnjppabBase
import Derived.Deep.AppendLies
import Derived.Deep.DrawnRows
import Derived.OneCell
set_option linter.unusedSimpArgs false
set_option linter.unusedVariables false
namespace Go.Proofs.Ytilbhingfnjppab
open Go.RowKit
theorem infoI : (Try.prog.info? 3).map (fun i => (i.zero, i.size, i.bytes)) = some (some (.int .i64 0), 1, 8) := by kernel_rfl
theorem infoB : (Try.prog.info? 5).map (fun i => (i.zero, i.size, i.bytes)) = some (some (.int .u8 0), 1, 1) := by kernel_rfl
theorem csame {w : World} {b o : Nat} {u : Value} : (w.setCell ⟨b, o, none⟩ u).cell? ⟨b, o, none⟩ = (w.cell? ⟨b, o, none⟩).map (fun _ => u) := by
  cases h : w.cell? ⟨b, o, none⟩ with
  | some v => exact World.cell?_setCell_same w _ u h
  | none =>
    simp only [World.setCell, World.cell?, Array.getElem?_modify] at *
    simp
    cases hb : w.heap[b]? with
    | none => simp
    | some x =>
      rw [hb] at h
      cases x <;> simp_all
theorem ltW {B : Nat} {W w1 : World} (hb : Below B W w1) : ∀ b, b < W.heap.size → b < w1.heap.size := fun _ h => Nat.lt_of_lt_of_le h hb.size
/-- A slice that the call owns, its cells one by one. -/
theorem own_cell {w : World} {B : Nat} {e : TypeId} {g n cap : Nat} {xs : List Value} (h : w.ownsRow B e 1 (.slice (some ⟨g, 0, none⟩) n cap) n xs) (j : Nat) (hj : j < n) : w.cell? ⟨g, j, none⟩ = xs[j]? := h.cellAt j (by omega)
/-- Behind an append of one element to an own slice, what lies below the call is as it was. -/
theorem below_app {w wr w1 : World} {B : Nat} {e : TypeId} {v : Value} {n : Nat} {xs : List Value} {o : Obj} (hbel : Below B w wr) (hz : B ≤ wr.heap.size) (hown : wr.ownsRow B e 1 v n xs) (hg : (wr.alloc o).grownBy w1 v.ownBlock) : Below B w w1 :=
  (hbel.alloc hz o).grown hg (by simp; omega) (fun j hj => (hown.lt j hj).1)
/-- The same where a lower bound is asked for. -/
theorem below_app' {w wr w1 : World} {B B' : Nat} {e : TypeId} {v : Value} {n : Nat} {xs : List Value} {o : Obj} (hbel : Below B' w wr) (hB : B' ≤ B) (hz : B ≤ wr.heap.size) (hown : wr.ownsRow B e 1 v n xs) (hg : (wr.alloc o).grownBy w1 v.ownBlock) : Below B' w w1 :=
  (hbel.alloc (by omega) o).grown hg (by simp; omega) (fun j hj => by have := (hown.lt j hj).1; omega)
theorem size_app {wr w1 : World} {o : Obj} {r : Option Nat} (hg : (wr.alloc o).grownBy w1 r) : wr.heap.size < w1.heap.size := by
  have := hg.size; simp at this; omega
theorem size_appD {wr w1 : World} {o : Obj} {r : Option Nat} (hg : (wr.alloc o).drew.grownBy w1 r) : wr.heap.size < w1.heap.size := by
  have := hg.size; simp at this; omega
theorem below_appD {w wr w1 : World} {B : Nat} {e : TypeId} {v : Value} {n : Nat} {xs : List Value} {o : Obj} (hbel : Below B w wr) (hz : B ≤ wr.heap.size) (hown : wr.ownsRow B e 1 v n xs) (hg : (wr.alloc o).drew.grownBy w1 v.ownBlock) : Below B w w1 :=
  (hbel.alloc hz o).drew.grown hg (by simp; omega) (fun j hj => (hown.lt j hj).1)
theorem le_cap {w : World} {B : Nat} {e : TypeId} {g n cap : Nat} {xs : List Value} (h : w.ownsRow B e 1 (.slice (some ⟨g, 0, none⟩) n cap) n xs) : n ≤ cap := by
  rcases h.2 with ⟨h', _⟩ | ⟨_, _, _, h', _, _, hc, _⟩
  · cases h'
  · cases h'; exact hc
/-- The length of a slice, for a measure. -/
def lenOf : Value → Nat | .slice _ n _ => n | _ => 0
end Go.Proofs.Ytilbhingfnjppab
