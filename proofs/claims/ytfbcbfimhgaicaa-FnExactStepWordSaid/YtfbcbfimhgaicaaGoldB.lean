/- The walks of sums, products, mates, norms on Golds, of the checked operations, and of the laws on them. -/
import Derived.Test.YtfbcbfimhgaicaaGoldA
import Derived.Deep.RegionHeld3
set_option linter.unusedSimpArgs false
set_option linter.unusedVariables false
namespace Go.Proofs.Ytfbcbfimhgaicaa
open Go.RowKit

/-! ### What the small functions compute -/
def mulA (a b c d : Int) : Int := wrap64 (wrap64 (a * c) + wrap64 (b * d))
def mulB (a b c d : Int) : Int := wrap64 (wrap64 (wrap64 (a * d) + wrap64 (b * c)) + wrap64 (b * d))
def normI (a b : Int) : Int := wrap64 (wrap64 (wrap64 (a * a) + wrap64 (a * b)) - wrap64 (b * b))
/-- A number where a condition holds, else 0. -/
def gz (c : Bool) (a : Int) : Int := if c then a else 0
theorem gz_true (a : Int) : gz true a = a := rfl
theorem gz_false (a : Int) : gz false a = 0 := rfl
def k3 (a b c d ra rb : Int) : Bool := okB a b && (okB c d && okB ra rb)

set_option maxHeartbeats 400000 in
theorem minus_any (a b c d : Int) (w : World) :
    Calls Try.prog 91 #[.agg #[.int .i64 (a), .int .i64 (b)], .agg #[.int .i64 (c), .int .i64 (d)]] w fun e w' => e = .returned (.agg #[.int .i64 (wrap64 (a - c)), .int .i64 (wrap64 (b - d))]) ∧ Below w.heap.size w w' := by
  go_enter Try.func91, Try.ntmps91
  go_wp2
  (refine bodyPost_ret (v := .agg #[.int .i64 (wrap64 (a - c)), .int .i64 (wrap64 (b - d))]) (by simp [results, Try.results91, go_sem, cset, mulA, mulB, *]) rfl ⟨by first | rfl | simp [*], ?_⟩; (repeat (first | with_reducible exact Below.refl _ _ | assumption | with_reducible refine Qdrew ?_ | with_reducible refine QdrewN ?_ | ((with_reducible refine Qset ?_ ?_); exact (by ((try simp only [World.size_alloc, World.size_setCell, World.size_drew, size_drewN]); (try dsimp only); omega))) | ((with_reducible refine Qalloc ?_ ?_); exact (by ((try simp only [World.size_alloc, World.size_setCell, World.size_drew, size_drewN]); (try dsimp only); omega))) | refine Qtrans (by assumption) (by ((try simp only [World.size_alloc, World.size_setCell, World.size_drew, size_drewN]); (try dsimp only); omega)) ?_)))
set_option maxHeartbeats 400000 in
theorem mate_any (a b : Int) (w : World) :
    Calls Try.prog 142 #[.agg #[.int .i64 (a), .int .i64 (b)]] w fun e w' => e = .returned (.agg #[.int .i64 (wrap64 (a + b)), .int .i64 (wrap64 (-b))]) ∧ Below w.heap.size w w' := by
  go_enter Try.func142, Try.ntmps142
  go_wp2
  (refine bodyPost_ret (v := .agg #[.int .i64 (wrap64 (a + b)), .int .i64 (wrap64 (-b))]) (by simp [results, Try.results142, go_sem, cset, mulA, mulB, *]) rfl ⟨by first | rfl | simp [*], ?_⟩; (repeat (first | with_reducible exact Below.refl _ _ | assumption | with_reducible refine Qdrew ?_ | with_reducible refine QdrewN ?_ | ((with_reducible refine Qset ?_ ?_); exact (by ((try simp only [World.size_alloc, World.size_setCell, World.size_drew, size_drewN]); (try dsimp only); omega))) | ((with_reducible refine Qalloc ?_ ?_); exact (by ((try simp only [World.size_alloc, World.size_setCell, World.size_drew, size_drewN]); (try dsimp only); omega))) | refine Qtrans (by assumption) (by ((try simp only [World.size_alloc, World.size_setCell, World.size_drew, size_drewN]); (try dsimp only); omega)) ?_)))
set_option maxHeartbeats 400000 in
theorem eqGold_any (a b c d : Int) (w : World) :
    Calls Try.prog 90 #[.agg #[.int .i64 (a), .int .i64 (b)], .agg #[.int .i64 (c), .int .i64 (d)]] w fun e w' => e = .returned (.bool ((a == c) && (b == d))) ∧ Below w.heap.size w w' := by
  go_enter Try.func90, Try.ntmps90
  go_wp2
  all_goals go_ret
  all_goals refine ⟨ret_bool (by simp_all), ?_⟩
  all_goals (repeat (first | with_reducible exact Below.refl _ _ | assumption | with_reducible refine Qdrew ?_ | with_reducible refine QdrewN ?_ | ((with_reducible refine Qset ?_ ?_); exact (by ((try simp only [World.size_alloc, World.size_setCell, World.size_drew, size_drewN]); (try dsimp only); omega))) | ((with_reducible refine Qalloc ?_ ?_); exact (by ((try simp only [World.size_alloc, World.size_setCell, World.size_drew, size_drewN]); (try dsimp only); omega))) | refine Qtrans (by assumption) (by ((try simp only [World.size_alloc, World.size_setCell, World.size_drew, size_drewN]); (try dsimp only); omega)) ?_))
theorem eqGold_same (a b : Int) (w : World) :
    Calls Try.prog 90 #[.agg #[.int .i64 (a), .int .i64 (b)], .agg #[.int .i64 (a), .int .i64 (b)]] w fun e w' => e = .returned (.bool true) ∧ Below w.heap.size w w' := by
  refine (eqGold_any a b a b w).mono fun e w' h => ⟨h.1.trans (by simp), h.2⟩

/-! ### The checked operations: what the reference and the program return -/
def mateK (a b : Int) : Bool := okB a b && okB (wrap64 (a + b)) (wrap64 (-b))
end Go.Proofs.Ytfbcbfimhgaicaa
