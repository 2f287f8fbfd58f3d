/- Small laws that every walk of this seat uses: what lies below a bound stays, closers. -/
import Derived.Test.YtilbhingfnjppabRows
import Derived.WalkKit
import Derived.WalkSpells
import Derived.Lib.Hide
import Derived.Deep.QuietTactic
import Derived.BigQuiet
import Derived.Deep.RegionHeld3
import Derived.Deep.DeepCutAuto
set_option linter.unusedSimpArgs false
set_option linter.unusedVariables false
namespace Go.Proofs.Ytilbhingfnjppab
open Go.RowKit

theorem bcell {B : Nat} {W w1 : World} (hb : Below B W w1) : (∀ b o, b < B → w1.cell? ⟨b, o, none⟩ = W.cell? ⟨b, o, none⟩) ∧ (∀ b o, b < B → w1.frozen? ⟨b, o, none⟩ = W.frozen? ⟨b, o, none⟩) :=
  ⟨fun b o h => hb.cell (p := ⟨b, o, none⟩) h, fun b o h => hb.frozen (p := ⟨b, o, none⟩) h⟩
theorem bcellK {w W w1 : World} {B : Nat} (p : Nat) (hb : Below B W w1) (h : w.heap.size + p ≤ B) : (∀ b o, b < w.heap.size + p → w1.cell? ⟨b, o, none⟩ = W.cell? ⟨b, o, none⟩) ∧ (∀ b o, b < w.heap.size + p → w1.frozen? ⟨b, o, none⟩ = W.frozen? ⟨b, o, none⟩) :=
  ⟨fun b o hb1 => hb.cell (p := ⟨b, o, none⟩) (Nat.lt_of_lt_of_le hb1 h), fun b o hb1 => hb.frozen (p := ⟨b, o, none⟩) (Nat.lt_of_lt_of_le hb1 h)⟩
theorem Qtrans {w a w' : World} {B B' : Nat} (h2 : Below B' a w') (hB : B ≤ B') (h1 : Below B w a) : Below B w w' := h1.trans (h2.mono hB)
theorem Qalloc {w a : World} {B : Nat} {o : Obj} (hB : B ≤ a.heap.size) (h : Below B w a) : Below B w (a.alloc o) := h.alloc hB o
theorem Qset {w a : World} {B : Nat} {p : Addr} {u : Value} (hB : B ≤ p.block) (h : Below B w a) : Below B w (a.setCell p u) := h.setCell hB u
theorem Qdrew {w a : World} {B : Nat} (h : Below B w a) : Below B w a.drew := h.drew
/- Block K reads in w1 as it did before. -/
theorem trackAt {W w1 : World} {B K : Nat} (hb : Below B W w1) (h : K < B) : (∀ off, w1.cell? ⟨K, off, none⟩ = W.cell? ⟨K, off, none⟩) ∧ (∀ off, w1.frozen? ⟨K, off, none⟩ = W.frozen? ⟨K, off, none⟩) :=
  ⟨fun _ => hb.cell (p := ⟨K, _, none⟩) h, fun _ => hb.frozen (p := ⟨K, _, none⟩) h⟩
theorem trackAlloc {X w1 : World} {B : Nat} {o : Obj} (hb : Below B (X.alloc o) w1) (h : X.heap.size < B) : (∀ off, w1.cell? ⟨X.heap.size, off, none⟩ = (X.alloc o).cell? ⟨X.heap.size, off, none⟩) ∧ (∀ off, w1.frozen? ⟨X.heap.size, off, none⟩ = (X.alloc o).frozen? ⟨X.heap.size, off, none⟩) ∧ X.heap.size < w1.heap.size :=
  ⟨(trackAt hb h).1, (trackAt hb h).2, by have := hb.size; simp at this; omega⟩
theorem trackAllocD {X w1 : World} {B : Nat} {o : Obj} (hb : Below B (X.alloc o).drew w1) (h : X.heap.size < B) : (∀ off, w1.cell? ⟨X.heap.size, off, none⟩ = (X.alloc o).drew.cell? ⟨X.heap.size, off, none⟩) ∧ (∀ off, w1.frozen? ⟨X.heap.size, off, none⟩ = (X.alloc o).drew.frozen? ⟨X.heap.size, off, none⟩) ∧ X.heap.size < w1.heap.size :=
  ⟨(trackAt hb h).1, (trackAt hb h).2, by have := hb.size; simp at this; omega⟩
theorem trackNext {W w1 Z : World} {B K : Nat} (hb : Below B W w1) (q : (∀ off, W.cell? ⟨K, off, none⟩ = Z.cell? ⟨K, off, none⟩) ∧ (∀ off, W.frozen? ⟨K, off, none⟩ = Z.frozen? ⟨K, off, none⟩) ∧ K < W.heap.size) (h : K < B) : (∀ off, w1.cell? ⟨K, off, none⟩ = Z.cell? ⟨K, off, none⟩) ∧ (∀ off, w1.frozen? ⟨K, off, none⟩ = Z.frozen? ⟨K, off, none⟩) ∧ K < w1.heap.size :=
  ⟨fun o => ((trackAt hb h).1 o).trans (q.1 o), fun o => ((trackAt hb h).2 o).trans (q.2.1 o), Nat.lt_of_lt_of_le q.2.2 hb.size⟩
theorem ltK {n p : Nat} {w1 : World} (h : n + p ≤ w1.heap.size) : ∀ b, b < n + p → b < w1.heap.size := fun _ hb => Nat.lt_of_lt_of_le hb h
theorem cset {w : World} {b o b' o' : Nat} {u : Value} (h : b ≠ b') : (w.setCell ⟨b', o', none⟩ u).cell? ⟨b, o, none⟩ = w.cell? ⟨b, o, none⟩ :=
  World.cell?_of_block (Below.heap_setCell w ⟨b', o', none⟩ u b h)
theorem calloc {w : World} {b o : Nat} {x : Obj} (h : b < w.heap.size) : (w.alloc x).cell? ⟨b, o, none⟩ = w.cell? ⟨b, o, none⟩ :=
  World.cell?_of_block (Below.heap_alloc w x b h)
theorem calloc' {w : World} {b o : Nat} {x : Obj} {v : Option Value} (h : b < w.heap.size) (e : w.cell? ⟨b, o, none⟩ = v) : (w.alloc x).cell? ⟨b, o, none⟩ = v := (calloc h).trans e
theorem cset' {w : World} {b o b' o' : Nat} {u : Value} {v : Option Value} (h : b ≠ b') (e : w.cell? ⟨b, o, none⟩ = v) : (w.setCell ⟨b', o', none⟩ u).cell? ⟨b, o, none⟩ = v := (cset h).trans e
theorem cdrew {w : World} {b o : Nat} : w.drew.cell? ⟨b, o, none⟩ = w.cell? ⟨b, o, none⟩ := rfl
/-- What stood below K stays: the rule that a walk reads cells by, and the bound itself. -/
theorem stays {K : Nat} {Z w : World} (h : Below K Z w) : (∀ b o, b < K → w.cell? ⟨b, o, none⟩ = Z.cell? ⟨b, o, none⟩) ∧ Below K Z w := ⟨fun _ _ hb => h.cell hb, h⟩
theorem QdrewN {w a : World} {B n : Nat} (h : Below B w a) : Below B w (a.drewN n) := ⟨h.os, h.tape, h.output, h.size, h.block⟩
theorem size_drewN {w : World} {n : Nat} : (w.drewN n).heap.size = w.heap.size := rfl
theorem stays2 {K g : Nat} {Z w : World} {x y : Option Value} (h : Below K Z w) (h0 : w.cell? ⟨g, 0, none⟩ = x) (h1 : w.cell? ⟨g, 1, none⟩ = y) : (∀ b o, b < K → w.cell? ⟨b, o, none⟩ = Z.cell? ⟨b, o, none⟩) ∧ Below K Z w ∧ w.cell? ⟨g, 0, none⟩ = x ∧ w.cell? ⟨g, 1, none⟩ = y := ⟨fun _ _ hb => h.cell hb, h, h0, h1⟩
theorem ret_int {k : IntKind} {a b : Int} (h : a = b) : Ending.returned (.int k a) = .returned (.int k b) := by rw [h]
theorem ret_bool {a b : Bool} (h : a = b) : Ending.returned (.bool a) = .returned (.bool b) := by rw [h]

/-- A number lies from a least one to a greatest one. -/
def inB (n lo hi : Int) : Bool := decide (lo ≤ n) && decide (n ≤ hi)
theorem inB_eq (n lo hi : Int) : inB n lo hi = (decide (lo ≤ n) && decide (n ≤ hi)) := rfl
theorem inB_true {n lo hi : Int} : inB n lo hi = true ↔ lo ≤ n ∧ n ≤ hi := by simp [inB]
theorem inB_false {n lo hi : Int} : inB n lo hi = false ↔ ¬ (lo ≤ n ∧ n ≤ hi) := by simp [inB]
end Go.Proofs.Ytilbhingfnjppab
