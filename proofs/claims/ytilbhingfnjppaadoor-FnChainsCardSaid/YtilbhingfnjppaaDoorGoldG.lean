/- The walks of grown chains, and the law on them. -/
import Derived.Test.YtilbhingfnjppaaDoorGoldW
set_option linter.unusedSimpArgs false
set_option linter.unusedVariables false
namespace Go.Proofs.YtilbhingfnjppaaDoor
open Go.RowKit
theorem csameG {w : World} {b o : Nat} {u : Value} : (w.setCell ⟨b, o, none⟩ u).cell? ⟨b, o, none⟩ = (w.cell? ⟨b, o, none⟩).map (fun _ => u) := by
  cases h : w.cell? ⟨b, o, none⟩ with
  | some v => exact World.cell?_setCell_same w _ u h
  | none =>
    simp only [World.setCell, World.cell?, Array.getElem?_modify] at *
    simp
    cases hb : w.heap[b]? with
    | none => simp
    | some x =>
      rw [hb] at h
      cases x <;> simp_all
theorem ltKs {n p : Nat} {s : Nat} (h : n + p ≤ s) : (∀ b, b < n + p → b < s + 1) ∧ (∀ b, b < n + p → b < s + 1 + 1) ∧ (∀ b, b < n + p → b < s + 1 + 1 + 1) ∧ (∀ b, b < n + p → b < s + 1 + 1 + 1 + 1) ∧ (∀ b, b < n + p → b < s + 1 + 1 + 1 + 1 + 1) ∧ (∀ b, b < n + p → b < s + 1 + 1 + 1 + 1 + 1 + 1) ∧ (∀ b, b < n + p → b < s + 1 + 1 + 1 + 1 + 1 + 1 + 1) ∧ (∀ b, b < n + p → b < s + 1 + 1 + 1 + 1 + 1 + 1 + 1 + 1) := by
  refine ⟨?_, ?_, ?_, ?_, ?_, ?_, ?_, ?_⟩ <;> (intro b hb; omega)
def grA (a b : Int) : Int := mulA a b 1 (-1)
def grB (a b : Int) : Int := mulB a b 1 (-1)
def grK (a b c d : Int) : Bool := win a b c d && win (grA c d) (grB c d) (grA a b) (grB a b)
set_option maxRecDepth 20000 in
set_option maxHeartbeats 400000 in
theorem times_gr (a b : Int) (w : World) :
    Calls Tryd.prog 79 #[.agg #[.int .i64 (a), .int .i64 (b)], .agg #[.int .i64 (1), .int .i64 (-1)]] w fun e w' => e = .returned (.agg #[.int .i64 (grA a b), .int .i64 (grB a b)]) ∧ (((w.alloc (.cells #[.int .i64 (a), .int .i64 (b)] 44)).alloc (.cells #[.int .i64 (1), .int .i64 (-1)] 44)).alloc (.cells #[.int .i64 (grA (a) (b)), .int .i64 (grB (a) (b))] 44)) = w' := by
  have e1 : wrap64 (wrap64 (a * 1) + wrap64 (b * -1)) = grA a b := rfl
  have e2 : wrap64 (wrap64 (wrap64 (a * -1) + wrap64 (b * 1)) + wrap64 (b * -1)) = grB a b := rfl
  go_enter Tryd.func79, Tryd.ntmps79
  go_wp2
  refine bodyPost_ret (v := .agg #[.int .i64 (grA a b), .int .i64 (grB a b)]) (by simp [results, Tryd.results79, go_sem, grA, grB, mulA, mulB]) rfl ⟨rfl, by simp [grA, grB, mulA, mulB]⟩
end Go.Proofs.YtilbhingfnjppaaDoor
