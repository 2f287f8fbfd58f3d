/- The walks of comparisons and floors, and the laws on them. -/
import Derived.Test.YtfbcbfimhgaicaaGoldS
set_option linter.unusedSimpArgs false
set_option linter.unusedVariables false
namespace Go.Proofs.Ytfbcbfimhgaicaa
open Go.RowKit
/-- An int that holds a difference of two such without wrapping. -/
theorem wrap_in (n : Int) (h : -9000000000000000000 ≤ n ∧ n ≤ 9000000000000000000) : wrap64 n = n := IntWalk.wrap64_in n (by omega)
theorem minus_in (a b c d : Int) (w : World) (ha : -50000000 ≤ a ∧ a ≤ 50000000) (hb : -50000000 ≤ b ∧ b ≤ 50000000) (hc : -50000000 ≤ c ∧ c ≤ 50000000) (hd : -50000000 ≤ d ∧ d ≤ 50000000) :
    Calls Try.prog 91 #[.agg #[.int .i64 (a), .int .i64 (b)], .agg #[.int .i64 (c), .int .i64 (d)]] w fun e w' => e = .returned (.agg #[.int .i64 (a - c), .int .i64 (b - d)]) ∧ Below w.heap.size w w' := by
  refine (minus_any a b c d w).mono fun e w' h => ⟨h.1.trans ?_, h.2⟩
  rw [wrap_in (a - c) (by omega), wrap_in (b - d) (by omega)]
set_option maxHeartbeats 400000 in
theorem compare_any (a b c d : Int) (w : World) (ha : -50000000 ≤ a ∧ a ≤ 50000000) (hb : -50000000 ≤ b ∧ b ≤ 50000000) (hc : -50000000 ≤ c ∧ c ≤ 50000000) (hd : -50000000 ≤ d ∧ d ≤ 50000000) :
    Calls Try.prog 96 #[.agg #[.int .i64 (a), .int .i64 (b)], .agg #[.int .i64 (c), .int .i64 (d)]] w fun e w' => e = .returned (.int .i64 (sgn (a - c) (b - d))) ∧ Below w.heap.size w w' := by
  go_enter Try.func96, Try.ntmps96
  go_wp2_with (first | (go_at_call 91; refine (minus_in _ _ _ _ _ ha hb hc hd).mono ?_; rintro e w1 ⟨rfl, hb1⟩; have hz1 := hb1.size; (try simp at hz1); obtain ⟨hc1, hf1⟩ := bcellK (w := w) 2 hb1 (by ((try simp only [World.size_alloc, World.size_setCell, World.size_drew, size_drewN]); (try dsimp only); omega)); have hl1 := ltK (n := w.heap.size) (p := 2) (w1 := w1) (by omega); (try (have tk1 := trackAlloc hb1 (by ((try simp only [World.size_alloc, World.size_setCell, World.size_drew, size_drewN]); (try dsimp only); omega)); try simp only [World.size_alloc, World.size_drew] at tk1)); (try (have tk2 := trackAllocD hb1 (by ((try simp only [World.size_alloc, World.size_setCell, World.size_drew, size_drewN]); (try dsimp only); omega)); try simp only [World.size_alloc, World.size_drew] at tk2)); (try have tk3 := trackNext hb1 (by assumption) (by ((try simp only [World.size_alloc, World.size_setCell, World.size_drew, size_drewN]); (try dsimp only); omega)))) | (go_at_call 124; refine (sign_any _ _ _ (by omega) (by omega)).mono ?_; rintro e w1 ⟨rfl, hb1⟩; have hz1 := hb1.size; (try simp at hz1); obtain ⟨hc1, hf1⟩ := bcellK (w := w) 2 hb1 (by ((try simp only [World.size_alloc, World.size_setCell, World.size_drew, size_drewN]); (try dsimp only); omega)); have hl1 := ltK (n := w.heap.size) (p := 2) (w1 := w1) (by omega); (try (have tk1 := trackAlloc hb1 (by ((try simp only [World.size_alloc, World.size_setCell, World.size_drew, size_drewN]); (try dsimp only); omega)); try simp only [World.size_alloc, World.size_drew] at tk1)); (try (have tk2 := trackAllocD hb1 (by ((try simp only [World.size_alloc, World.size_setCell, World.size_drew, size_drewN]); (try dsimp only); omega)); try simp only [World.size_alloc, World.size_drew] at tk2)); (try have tk3 := trackNext hb1 (by assumption) (by ((try simp only [World.size_alloc, World.size_setCell, World.size_drew, size_drewN]); (try dsimp only); omega)))))
  (go_ret; exact ⟨rfl, by (repeat (first | with_reducible exact Below.refl _ _ | assumption | with_reducible refine Qdrew ?_ | with_reducible refine QdrewN ?_ | ((with_reducible refine Qset ?_ ?_); exact (by ((try simp only [World.size_alloc, World.size_setCell, World.size_drew, size_drewN]); (try dsimp only); omega))) | ((with_reducible refine Qalloc ?_ ?_); exact (by ((try simp only [World.size_alloc, World.size_setCell, World.size_drew, size_drewN]); (try dsimp only); omega))) | refine Qtrans (by assumption) (by ((try simp only [World.size_alloc, World.size_setCell, World.size_drew, size_drewN]); (try dsimp only); omega)) ?_))⟩)

theorem mate_in (a b : Int) (w : World) (ha : -50000000 ≤ a ∧ a ≤ 50000000) (hb : -50000000 ≤ b ∧ b ≤ 50000000) :
    Calls Try.prog 142 #[.agg #[.int .i64 (a), .int .i64 (b)]] w fun e w' => e = .returned (.agg #[.int .i64 (a + b), .int .i64 (-b)]) ∧ Below w.heap.size w w' := by
  refine (mate_any a b w).mono fun e w' h => ⟨h.1.trans ?_, h.2⟩
  rw [wrap_in (a + b) (by omega), wrap_in (-b) (by omega)]
theorem okB_true {a b : Int} (h : okB a b = true) : (-1000000 ≤ a ∧ a ≤ 1000000) ∧ (-1000000 ≤ b ∧ b ≤ 1000000) := by
  unfold okB at h; rw [Bool.and_eq_true, inB_true, inB_true] at h; exact h

end Go.Proofs.Ytfbcbfimhgaicaa
