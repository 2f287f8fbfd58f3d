/- The walks of windows, and their law. -/
import Derived.Test.YtilbhingfnjppaaDoorMGold
set_option linter.unusedSimpArgs false
set_option linter.unusedVariables false
namespace Go.Proofs.YtilbhingfnjppaaDoor
open Go.RowKit
def inW (a b : Int) : Bool := inB a (-100) 100 && inB b (-100) 100
theorem inW_true {a b : Int} (h : inW a b = true) : (-100 ≤ a ∧ a ≤ 100) ∧ (-100 ≤ b ∧ b ≤ 100) := by
  unfold inW at h; rw [Bool.and_eq_true, inB_true, inB_true] at h; exact h
/-- A window's width is at least 1 and less than 4. -/
def wide (a b : Int) : Bool := decide (0 ≤ sgn (a - 1) b) && decide (sgn (a - 4) b < 0)
def win (a b c d : Int) : Bool := inW a b && (inW c d && wide (c - a) (d - b))

set_option maxRecDepth 20000 in
set_option maxHeartbeats 1000000 in
theorem implWindowOk_any (a b c d : Int) (w : World) :
    Calls Tryd.prog 28 #[.agg #[.int .i64 (a), .int .i64 (b)], .agg #[.int .i64 (c), .int .i64 (d)]] w fun e w' => e = .returned (.bool (win a b c d)) ∧ Below w.heap.size w w' := by
  cases h1 : inB a (-100) 100 <;> cases h2 : inB b (-100) 100 <;> cases h3 : inB c (-100) 100 <;> cases h4 : inB d (-100) 100
  case' true.true.true.true =>
    have ha := inB_true.1 h1
    have hb := inB_true.1 h2
    have hc := inB_true.1 h3
    have hd := inB_true.1 h4
  all_goals
    go_enter Tryd.func28, Tryd.ntmps28
    go_wp2_with fail
    refine wp_loop_rounds 3 ?_
    rw [rounds_succ]
    go_wp2_with (first | (go_at_call 50; refine (within_any _ _ _ _).mono ?_; rintro e w1 ⟨rfl, rfl⟩))
  all_goals try (rw [rounds_succ]; go_wp2_with (first | (go_at_call 50; refine (within_any _ _ _ _).mono ?_; rintro e w1 ⟨rfl, rfl⟩)))
  all_goals try (rw [rounds_succ]; go_wp2_with (first | (go_at_call 68; refine (minus_in _ _ _ _ _ (by omega) (by omega) (by omega) (by omega)).mono ?_; rintro e w1 ⟨rfl, hb1⟩; have hz1 := hb1.size; (try simp at hz1); obtain ⟨hc1, hf1⟩ := bcellK (w := w) 2 hb1 (by ((try simp only [World.size_alloc, World.size_setCell, World.size_drew, size_drewN]); (try dsimp only); omega)); have hl1 := ltK (n := w.heap.size) (p := 2) (w1 := w1) (by omega); (try (have tk1 := trackAlloc hb1 (by ((try simp only [World.size_alloc, World.size_setCell, World.size_drew, size_drewN]); (try dsimp only); omega)); try simp only [World.size_alloc, World.size_drew] at tk1)); (try (have tk2 := trackAllocD hb1 (by ((try simp only [World.size_alloc, World.size_setCell, World.size_drew, size_drewN]); (try dsimp only); omega)); try simp only [World.size_alloc, World.size_drew] at tk2)); (try have tk3 := trackNext hb1 (by assumption) (by ((try simp only [World.size_alloc, World.size_setCell, World.size_drew, size_drewN]); (try dsimp only); omega)))) | (go_at_call 71; refine (compare_any _ _ _ _ _ (by omega) (by omega) (by omega) (by omega)).mono ?_; rintro e w1 ⟨rfl, hb1⟩; have hz1 := hb1.size; (try simp at hz1); obtain ⟨hc1, hf1⟩ := bcellK (w := w) 2 hb1 (by ((try simp only [World.size_alloc, World.size_setCell, World.size_drew, size_drewN]); (try dsimp only); omega)); have hl1 := ltK (n := w.heap.size) (p := 2) (w1 := w1) (by omega); (try (have tk1 := trackAlloc hb1 (by ((try simp only [World.size_alloc, World.size_setCell, World.size_drew, size_drewN]); (try dsimp only); omega)); try simp only [World.size_alloc, World.size_drew] at tk1)); (try (have tk2 := trackAllocD hb1 (by ((try simp only [World.size_alloc, World.size_setCell, World.size_drew, size_drewN]); (try dsimp only); omega)); try simp only [World.size_alloc, World.size_drew] at tk2)); (try have tk3 := trackNext hb1 (by assumption) (by ((try simp only [World.size_alloc, World.size_setCell, World.size_drew, size_drewN]); (try dsimp only); omega))))))
  all_goals go_ret
  all_goals exact ⟨ret_bool (by first | (simp [win, inW, wide, h1, h2, h3, h4]; done) | (simp [win, inW, wide, h1, h2, h3, h4] at *; omega)), by (repeat (first | with_reducible exact Below.refl _ _ | assumption | with_reducible refine Qdrew ?_ | with_reducible refine QdrewN ?_ | ((with_reducible refine Qset ?_ ?_); exact (by ((try simp only [World.size_alloc, World.size_setCell, World.size_drew, size_drewN]); (try dsimp only); omega))) | ((with_reducible refine Qalloc ?_ ?_); exact (by ((try simp only [World.size_alloc, World.size_setCell, World.size_drew, size_drewN]); (try dsimp only); omega))) | refine Qtrans (by assumption) (by ((try simp only [World.size_alloc, World.size_setCell, World.size_drew, size_drewN]); (try dsimp only); omega)) ?_))⟩

end Go.Proofs.YtilbhingfnjppaaDoor
