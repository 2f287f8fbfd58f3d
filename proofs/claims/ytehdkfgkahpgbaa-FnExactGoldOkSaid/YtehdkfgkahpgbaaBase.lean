/- Small laws that every walk of this seat uses: what lies below a bound stays, closers. -/
import Derived.Test.YtehdkfgkahpgbaaRows
import Derived.WalkKit
import Derived.WalkSpells
import Derived.Lib.Hide
namespace Go.Proofs.Ytehdkfgkahpgbaa
open Go.RowKit

theorem bcell {B : Nat} {W w1 : World} (hb : Below B W w1) : (∀ b o, b < B → w1.cell? ⟨b, o, none⟩ = W.cell? ⟨b, o, none⟩) ∧ (∀ b o, b < B → w1.frozen? ⟨b, o, none⟩ = W.frozen? ⟨b, o, none⟩) :=
  ⟨fun b o h => hb.cell (p := ⟨b, o, none⟩) h, fun b o h => hb.frozen (p := ⟨b, o, none⟩) h⟩
theorem bcellK {w W w1 : World} {B : Nat} (p : Nat) (hb : Below B W w1) (h : w.heap.size + p ≤ B) : (∀ b o, b < w.heap.size + p → w1.cell? ⟨b, o, none⟩ = W.cell? ⟨b, o, none⟩) ∧ (∀ b o, b < w.heap.size + p → w1.frozen? ⟨b, o, none⟩ = W.frozen? ⟨b, o, none⟩) :=
  ⟨fun b o hb1 => hb.cell (p := ⟨b, o, none⟩) (Nat.lt_of_lt_of_le hb1 h), fun b o hb1 => hb.frozen (p := ⟨b, o, none⟩) (Nat.lt_of_lt_of_le hb1 h)⟩
theorem Qtrans {w a w' : World} {B B' : Nat} (h2 : Below B' a w') (hB : B ≤ B') (h1 : Below B w a) : Below B w w' := h1.trans (h2.mono hB)
theorem Qalloc {w a : World} {B : Nat} {o : Obj} (hB : B ≤ a.heap.size) (h : Below B w a) : Below B w (a.alloc o) := h.alloc hB o
theorem Qset {w a : World} {B : Nat} {p : Addr} {u : Value} (hB : B ≤ p.block) (h : Below B w a) : Below B w (a.setCell p u) := h.setCell hB u
theorem Qdrew {w a : World} {B : Nat} (h : Below B w a) : Below B w a.drew := h.drew
theorem ret_int {k : IntKind} {a b : Int} (h : a = b) : Ending.returned (.int k a) = .returned (.int k b) := by rw [h]
theorem ret_bool {a b : Bool} (h : a = b) : Ending.returned (.bool a) = .returned (.bool b) := by rw [h]

/-- A number lies from a least one to a greatest one. -/
def inB (n lo hi : Int) : Bool := decide (lo ≤ n) && decide (n ≤ hi)
theorem inB_eq (n lo hi : Int) : inB n lo hi = (decide (lo ≤ n) && decide (n ≤ hi)) := rfl
theorem inB_true {n lo hi : Int} : inB n lo hi = true ↔ lo ≤ n ∧ n ≤ hi := by simp [inB]
theorem inB_false {n lo hi : Int} : inB n lo hi = false ↔ ¬ (lo ≤ n ∧ n ≤ hi) := by simp [inB]
end Go.Proofs.Ytehdkfgkahpgbaa
