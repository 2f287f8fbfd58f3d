/- Several texts in one, in their order: In GoldA GoldB GoldM GoldS GoldT GoldF GoldP GoldQ GoldN. -/
import Derived.Test.YtilbhingfnjppaaDoorBase
import Derived.Deep.RegionHeld3
import Derived.Deep.QuietTactic
import Derived.BigQuiet
set_option linter.unusedSimpArgs false
set_option linter.unusedVariables false
namespace Go.Proofs.YtilbhingfnjppaaDoor
open Go.RowKit
set_option maxRecDepth 20000 in
set_option maxHeartbeats 400000 in
theorem l01In_any (n lo hi : Int) (w : World) :
    Calls Tryd.prog 47 #[.int .i64 n, .int .i64 lo, .int .i64 hi] w fun e w' => e = .returned (.bool (inB n lo hi)) ∧ w = w' := by
  go_enter Tryd.func47, Tryd.ntmps47
  go_wp2
  all_goals go_ret
  all_goals exact ⟨ret_bool (by simp [inB]; omega), rfl⟩
set_option maxRecDepth 20000 in
set_option maxHeartbeats 400000 in
theorem within_any (n lo hi : Int) (w : World) :
    Calls Tryd.prog 50 #[.int .i64 n, .int .i64 lo, .int .i64 hi] w fun e w' => e = .returned (.bool (inB n lo hi)) ∧ w = w' := by
  go_enter Tryd.func50, Tryd.ntmps50
  go_wp2
  all_goals go_ret
  all_goals exact ⟨ret_bool (by simp [inB]; omega), rfl⟩
end Go.Proofs.YtilbhingfnjppaaDoor

namespace Go.Proofs.YtilbhingfnjppaaDoor
open Go.RowKit

def okB (a b : Int) : Bool := inB a (-1000000) 1000000 && inB b (-1000000) 1000000

set_option maxRecDepth 20000 in
set_option maxHeartbeats 400000 in
theorem implGoldOk_any (a b : Int) (w : World) :
    Calls Tryd.prog 74 #[.agg #[.int .i64 (a), .int .i64 (b)]] w fun e w' => e = .returned (.bool (okB a b)) ∧ Below w.heap.size w w' := by
  go_enter Tryd.func74, Tryd.ntmps74
  go_wp2_with (go_at_call 50; refine (within_any _ _ _ _).mono ?_; rintro e w1 ⟨rfl, rfl⟩)
  all_goals go_ret
  all_goals refine ⟨ret_bool (by simp [okB, *]), ?_⟩
  all_goals (repeat (first | with_reducible exact Below.refl _ _ | assumption | with_reducible refine Qdrew ?_ | with_reducible refine QdrewN ?_ | ((with_reducible refine Qset ?_ ?_); exact (by ((try simp only [World.size_alloc, World.size_setCell, World.size_drew, size_drewN]); (try dsimp only); omega))) | ((with_reducible refine Qalloc ?_ ?_); exact (by ((try simp only [World.size_alloc, World.size_setCell, World.size_drew, size_drewN]); (try dsimp only); omega))) | refine Qtrans (by assumption) (by ((try simp only [World.size_alloc, World.size_setCell, World.size_drew, size_drewN]); (try dsimp only); omega)) ?_))

end Go.Proofs.YtilbhingfnjppaaDoor

namespace Go.Proofs.YtilbhingfnjppaaDoor
open Go.RowKit

/-! ### What the small functions compute -/
def mulA (a b c d : Int) : Int := wrap64 (wrap64 (a * c) + wrap64 (b * d))
def mulB (a b c d : Int) : Int := wrap64 (wrap64 (wrap64 (a * d) + wrap64 (b * c)) + wrap64 (b * d))
def normI (a b : Int) : Int := wrap64 (wrap64 (wrap64 (a * a) + wrap64 (a * b)) - wrap64 (b * b))
/-- A number where a condition holds, else 0. -/
def gz (c : Bool) (a : Int) : Int := if c then a else 0
theorem gz_true (a : Int) : gz true a = a := rfl
theorem gz_false (a : Int) : gz false a = 0 := rfl
def k3 (a b c d ra rb : Int) : Bool := okB a b && (okB c d && okB ra rb)

set_option maxRecDepth 20000 in
set_option maxHeartbeats 400000 in
theorem plus_any (a b c d : Int) (w : World) :
    Calls Tryd.prog 78 #[.agg #[.int .i64 (a), .int .i64 (b)], .agg #[.int .i64 (c), .int .i64 (d)]] w fun e w' => e = .returned (.agg #[.int .i64 (wrap64 (a + c)), .int .i64 (wrap64 (b + d))]) ∧ Below w.heap.size w w' := by
  go_enter Tryd.func78, Tryd.ntmps78
  go_wp2
  (refine bodyPost_ret (v := .agg #[.int .i64 (wrap64 (a + c)), .int .i64 (wrap64 (b + d))]) (by simp [results, Tryd.results78, go_sem, cset, mulA, mulB, *]) rfl ⟨by first | rfl | simp [*], ?_⟩; (repeat (first | with_reducible exact Below.refl _ _ | assumption | with_reducible refine Qdrew ?_ | with_reducible refine QdrewN ?_ | ((with_reducible refine Qset ?_ ?_); exact (by ((try simp only [World.size_alloc, World.size_setCell, World.size_drew, size_drewN]); (try dsimp only); omega))) | ((with_reducible refine Qalloc ?_ ?_); exact (by ((try simp only [World.size_alloc, World.size_setCell, World.size_drew, size_drewN]); (try dsimp only); omega))) | refine Qtrans (by assumption) (by ((try simp only [World.size_alloc, World.size_setCell, World.size_drew, size_drewN]); (try dsimp only); omega)) ?_)))
set_option maxRecDepth 20000 in
set_option maxHeartbeats 400000 in
theorem minus_any (a b c d : Int) (w : World) :
    Calls Tryd.prog 68 #[.agg #[.int .i64 (a), .int .i64 (b)], .agg #[.int .i64 (c), .int .i64 (d)]] w fun e w' => e = .returned (.agg #[.int .i64 (wrap64 (a - c)), .int .i64 (wrap64 (b - d))]) ∧ Below w.heap.size w w' := by
  go_enter Tryd.func68, Tryd.ntmps68
  go_wp2
  (refine bodyPost_ret (v := .agg #[.int .i64 (wrap64 (a - c)), .int .i64 (wrap64 (b - d))]) (by simp [results, Tryd.results68, go_sem, cset, mulA, mulB, *]) rfl ⟨by first | rfl | simp [*], ?_⟩; (repeat (first | with_reducible exact Below.refl _ _ | assumption | with_reducible refine Qdrew ?_ | with_reducible refine QdrewN ?_ | ((with_reducible refine Qset ?_ ?_); exact (by ((try simp only [World.size_alloc, World.size_setCell, World.size_drew, size_drewN]); (try dsimp only); omega))) | ((with_reducible refine Qalloc ?_ ?_); exact (by ((try simp only [World.size_alloc, World.size_setCell, World.size_drew, size_drewN]); (try dsimp only); omega))) | refine Qtrans (by assumption) (by ((try simp only [World.size_alloc, World.size_setCell, World.size_drew, size_drewN]); (try dsimp only); omega)) ?_)))
set_option maxRecDepth 20000 in
set_option maxHeartbeats 400000 in
theorem times_any (a b c d : Int) (w : World) :
    Calls Tryd.prog 79 #[.agg #[.int .i64 (a), .int .i64 (b)], .agg #[.int .i64 (c), .int .i64 (d)]] w fun e w' => e = .returned (.agg #[.int .i64 (mulA a b c d), .int .i64 (mulB a b c d)]) ∧ Below w.heap.size w w' := by
  go_enter Tryd.func79, Tryd.ntmps79
  go_wp2
  (refine bodyPost_ret (v := .agg #[.int .i64 (mulA a b c d), .int .i64 (mulB a b c d)]) (by simp [results, Tryd.results79, go_sem, cset, mulA, mulB, *]) rfl ⟨by first | rfl | simp [*], ?_⟩; (repeat (first | with_reducible exact Below.refl _ _ | assumption | with_reducible refine Qdrew ?_ | with_reducible refine QdrewN ?_ | ((with_reducible refine Qset ?_ ?_); exact (by ((try simp only [World.size_alloc, World.size_setCell, World.size_drew, size_drewN]); (try dsimp only); omega))) | ((with_reducible refine Qalloc ?_ ?_); exact (by ((try simp only [World.size_alloc, World.size_setCell, World.size_drew, size_drewN]); (try dsimp only); omega))) | refine Qtrans (by assumption) (by ((try simp only [World.size_alloc, World.size_setCell, World.size_drew, size_drewN]); (try dsimp only); omega)) ?_)))
set_option maxRecDepth 20000 in
set_option maxHeartbeats 400000 in
theorem mate_any (a b : Int) (w : World) :
    Calls Tryd.prog 80 #[.agg #[.int .i64 (a), .int .i64 (b)]] w fun e w' => e = .returned (.agg #[.int .i64 (wrap64 (a + b)), .int .i64 (wrap64 (-b))]) ∧ Below w.heap.size w w' := by
  go_enter Tryd.func80, Tryd.ntmps80
  go_wp2
  (refine bodyPost_ret (v := .agg #[.int .i64 (wrap64 (a + b)), .int .i64 (wrap64 (-b))]) (by simp [results, Tryd.results80, go_sem, cset, mulA, mulB, *]) rfl ⟨by first | rfl | simp [*], ?_⟩; (repeat (first | with_reducible exact Below.refl _ _ | assumption | with_reducible refine Qdrew ?_ | with_reducible refine QdrewN ?_ | ((with_reducible refine Qset ?_ ?_); exact (by ((try simp only [World.size_alloc, World.size_setCell, World.size_drew, size_drewN]); (try dsimp only); omega))) | ((with_reducible refine Qalloc ?_ ?_); exact (by ((try simp only [World.size_alloc, World.size_setCell, World.size_drew, size_drewN]); (try dsimp only); omega))) | refine Qtrans (by assumption) (by ((try simp only [World.size_alloc, World.size_setCell, World.size_drew, size_drewN]); (try dsimp only); omega)) ?_)))
set_option maxRecDepth 20000 in
set_option maxHeartbeats 400000 in
theorem result_any (a b c d ra rb : Int) (w : World) :
    Calls Tryd.prog 77 #[.agg #[.int .i64 (a), .int .i64 (b)], .agg #[.int .i64 (c), .int .i64 (d)], .agg #[.int .i64 (ra), .int .i64 (rb)]] w fun e w' => e = .returned (.tuple #[.agg #[.int .i64 (gz (k3 a b c d ra rb) (ra)), .int .i64 (gz (k3 a b c d ra rb) (rb))], .bool (k3 a b c d ra rb)]) ∧ Below w.heap.size w w' := by
  cases h1 : okB a b <;> cases h2 : okB c d <;> cases h3 : okB ra rb
  all_goals
    go_enter Tryd.func77, Tryd.ntmps77
    go_wp2_with (go_at_call 74; refine (implGoldOk_any _ _ _).mono ?_; rintro e w1 ⟨rfl, hb1⟩; have hz1 := hb1.size; (try simp at hz1); obtain ⟨hc1, hf1⟩ := bcellK (w := w) 4 hb1 (by ((try simp only [World.size_alloc, World.size_setCell, World.size_drew, size_drewN]); (try dsimp only); omega)); have hl1 := ltK (n := w.heap.size) (p := 4) (w1 := w1) (by omega); (try (have tk1 := trackAlloc hb1 (by ((try simp only [World.size_alloc, World.size_setCell, World.size_drew, size_drewN]); (try dsimp only); omega)); try simp only [World.size_alloc, World.size_drew] at tk1)); (try (have tk2 := trackAllocD hb1 (by ((try simp only [World.size_alloc, World.size_setCell, World.size_drew, size_drewN]); (try dsimp only); omega)); try simp only [World.size_alloc, World.size_drew] at tk2)); (try have tk3 := trackNext hb1 (by assumption) (by ((try simp only [World.size_alloc, World.size_setCell, World.size_drew, size_drewN]); (try dsimp only); omega))))
  all_goals (refine bodyPost_ret (v := .tuple #[.agg #[.int .i64 (gz (k3 a b c d ra rb) (ra)), .int .i64 (gz (k3 a b c d ra rb) (rb))], .bool (k3 a b c d ra rb)]) (by simp [results, Tryd.results77, go_sem, cset, gz, k3, *]) rfl ⟨by first | rfl | simp [*], ?_⟩; (repeat (first | with_reducible exact Below.refl _ _ | assumption | with_reducible refine Qdrew ?_ | with_reducible refine QdrewN ?_ | ((with_reducible refine Qset ?_ ?_); exact (by ((try simp only [World.size_alloc, World.size_setCell, World.size_drew, size_drewN]); (try dsimp only); omega))) | ((with_reducible refine Qalloc ?_ ?_); exact (by ((try simp only [World.size_alloc, World.size_setCell, World.size_drew, size_drewN]); (try dsimp only); omega))) | refine Qtrans (by assumption) (by ((try simp only [World.size_alloc, World.size_setCell, World.size_drew, size_drewN]); (try dsimp only); omega)) ?_)))

/-! ### The checked operations: what the reference and the program return -/
set_option maxRecDepth 20000 in
set_option maxHeartbeats 1000000 in
theorem implAddGold_any (a b c d : Int) (w : World) :
    Calls Tryd.prog 32 #[.agg #[.int .i64 (a), .int .i64 (b)], .agg #[.int .i64 (c), .int .i64 (d)]] w fun e w' => e = .returned (.tuple #[.agg #[.int .i64 (gz (k3 a b c d (wrap64 (a + c)) (wrap64 (b + d))) (wrap64 (a + c))), .int .i64 (gz (k3 a b c d (wrap64 (a + c)) (wrap64 (b + d))) (wrap64 (b + d)))], .bool (k3 a b c d (wrap64 (a + c)) (wrap64 (b + d)))]) ∧ Below w.heap.size w w' := by
  go_enter Tryd.func32, Tryd.ntmps32
  go_wp2_with fail
  go_region_held3 (fun wx => (∀ bk ofs, bk < w.heap.size + 2 → wx.cell? ⟨bk, ofs, none⟩ = ((((w.alloc (.cells #[.int .i64 a, .int .i64 b] 44)).alloc (.cells #[.int .i64 c, .int .i64 d] 44)).alloc (.cells #[.int .i64 0, .int .i64 0] 44))).cell? ⟨bk, ofs, none⟩) ∧ Below (w.heap.size + 2) ((((w.alloc (.cells #[.int .i64 a, .int .i64 b] 44)).alloc (.cells #[.int .i64 c, .int .i64 d] 44)).alloc (.cells #[.int .i64 0, .int .i64 0] 44))) wx) ((refine stays ?_; ((repeat (first | with_reducible exact Below.refl _ _ | assumption | with_reducible refine Qdrew ?_ | with_reducible refine QdrewN ?_ | ((with_reducible refine Qset ?_ ?_); exact (by ((try simp only [World.size_alloc, World.size_setCell, World.size_drew, size_drewN]); (try dsimp only); omega))) | ((with_reducible refine Qalloc ?_ ?_); exact (by ((try simp only [World.size_alloc, World.size_setCell, World.size_drew, size_drewN]); (try dsimp only); omega))) | refine Qtrans (by assumption) (by ((try simp only [World.size_alloc, World.size_setCell, World.size_drew, size_drewN]); (try dsimp only); omega)) ?_)) <;> (go_split_ands; assumption)))) (first | (go_at_call 78; refine (plus_any _ _ _ _ _).mono ?_; rintro e w1 ⟨rfl, hb1⟩; have hz1 := hb1.size; (try simp at hz1); obtain ⟨hc1, hf1⟩ := bcellK (w := w) 3 hb1 (by ((try simp only [World.size_alloc, World.size_setCell, World.size_drew, size_drewN]); (try dsimp only); omega)); have hl1 := ltK (n := w.heap.size) (p := 3) (w1 := w1) (by omega); (try (have tk1 := trackAlloc hb1 (by ((try simp only [World.size_alloc, World.size_setCell, World.size_drew, size_drewN]); (try dsimp only); omega)); try simp only [World.size_alloc, World.size_drew] at tk1)); (try (have tk2 := trackAllocD hb1 (by ((try simp only [World.size_alloc, World.size_setCell, World.size_drew, size_drewN]); (try dsimp only); omega)); try simp only [World.size_alloc, World.size_drew] at tk2)); (try have tk3 := trackNext hb1 (by assumption) (by ((try simp only [World.size_alloc, World.size_setCell, World.size_drew, size_drewN]); (try dsimp only); omega)))) | (go_at_call 77; refine (result_any _ _ _ _ _ _ _).mono ?_; rintro e w1 ⟨rfl, hb1⟩; have hz1 := hb1.size; (try simp at hz1); obtain ⟨hc1, hf1⟩ := bcellK (w := w) 3 hb1 (by ((try simp only [World.size_alloc, World.size_setCell, World.size_drew, size_drewN]); (try dsimp only); omega)); have hl1 := ltK (n := w.heap.size) (p := 3) (w1 := w1) (by omega); (try (have tk1 := trackAlloc hb1 (by ((try simp only [World.size_alloc, World.size_setCell, World.size_drew, size_drewN]); (try dsimp only); omega)); try simp only [World.size_alloc, World.size_drew] at tk1)); (try (have tk2 := trackAllocD hb1 (by ((try simp only [World.size_alloc, World.size_setCell, World.size_drew, size_drewN]); (try dsimp only); omega)); try simp only [World.size_alloc, World.size_drew] at tk2)); (try have tk3 := trackNext hb1 (by assumption) (by ((try simp only [World.size_alloc, World.size_setCell, World.size_drew, size_drewN]); (try dsimp only); omega)))))
  go_wp2
  (refine bodyPost_ret (v := .tuple #[.agg #[.int .i64 (gz (k3 a b c d (wrap64 (a + c)) (wrap64 (b + d))) (wrap64 (a + c))), .int .i64 (gz (k3 a b c d (wrap64 (a + c)) (wrap64 (b + d))) (wrap64 (b + d)))], .bool (k3 a b c d (wrap64 (a + c)) (wrap64 (b + d)))]) (by simp [results, Tryd.results32, go_sem, cset, gz, *]) rfl ⟨by first | rfl | simp [*], ?_⟩; (repeat (first | with_reducible exact Below.refl _ _ | assumption | with_reducible refine Qdrew ?_ | with_reducible refine QdrewN ?_ | ((with_reducible refine Qset ?_ ?_); exact (by ((try simp only [World.size_alloc, World.size_setCell, World.size_drew, size_drewN]); (try dsimp only); omega))) | ((with_reducible refine Qalloc ?_ ?_); exact (by ((try simp only [World.size_alloc, World.size_setCell, World.size_drew, size_drewN]); (try dsimp only); omega))) | refine Qtrans (by assumption) (by ((try simp only [World.size_alloc, World.size_setCell, World.size_drew, size_drewN]); (try dsimp only); omega)) ?_)))
set_option maxRecDepth 20000 in
set_option maxHeartbeats 1000000 in
theorem implSubGold_any (a b c d : Int) (w : World) :
    Calls Tryd.prog 31 #[.agg #[.int .i64 (a), .int .i64 (b)], .agg #[.int .i64 (c), .int .i64 (d)]] w fun e w' => e = .returned (.tuple #[.agg #[.int .i64 (gz (k3 a b c d (wrap64 (a - c)) (wrap64 (b - d))) (wrap64 (a - c))), .int .i64 (gz (k3 a b c d (wrap64 (a - c)) (wrap64 (b - d))) (wrap64 (b - d)))], .bool (k3 a b c d (wrap64 (a - c)) (wrap64 (b - d)))]) ∧ Below w.heap.size w w' := by
  go_enter Tryd.func31, Tryd.ntmps31
  go_wp2_with fail
  go_region_held3 (fun wx => (∀ bk ofs, bk < w.heap.size + 2 → wx.cell? ⟨bk, ofs, none⟩ = ((((w.alloc (.cells #[.int .i64 a, .int .i64 b] 44)).alloc (.cells #[.int .i64 c, .int .i64 d] 44)).alloc (.cells #[.int .i64 0, .int .i64 0] 44))).cell? ⟨bk, ofs, none⟩) ∧ Below (w.heap.size + 2) ((((w.alloc (.cells #[.int .i64 a, .int .i64 b] 44)).alloc (.cells #[.int .i64 c, .int .i64 d] 44)).alloc (.cells #[.int .i64 0, .int .i64 0] 44))) wx) ((refine stays ?_; ((repeat (first | with_reducible exact Below.refl _ _ | assumption | with_reducible refine Qdrew ?_ | with_reducible refine QdrewN ?_ | ((with_reducible refine Qset ?_ ?_); exact (by ((try simp only [World.size_alloc, World.size_setCell, World.size_drew, size_drewN]); (try dsimp only); omega))) | ((with_reducible refine Qalloc ?_ ?_); exact (by ((try simp only [World.size_alloc, World.size_setCell, World.size_drew, size_drewN]); (try dsimp only); omega))) | refine Qtrans (by assumption) (by ((try simp only [World.size_alloc, World.size_setCell, World.size_drew, size_drewN]); (try dsimp only); omega)) ?_)) <;> (go_split_ands; assumption)))) (first | (go_at_call 68; refine (minus_any _ _ _ _ _).mono ?_; rintro e w1 ⟨rfl, hb1⟩; have hz1 := hb1.size; (try simp at hz1); obtain ⟨hc1, hf1⟩ := bcellK (w := w) 3 hb1 (by ((try simp only [World.size_alloc, World.size_setCell, World.size_drew, size_drewN]); (try dsimp only); omega)); have hl1 := ltK (n := w.heap.size) (p := 3) (w1 := w1) (by omega); (try (have tk1 := trackAlloc hb1 (by ((try simp only [World.size_alloc, World.size_setCell, World.size_drew, size_drewN]); (try dsimp only); omega)); try simp only [World.size_alloc, World.size_drew] at tk1)); (try (have tk2 := trackAllocD hb1 (by ((try simp only [World.size_alloc, World.size_setCell, World.size_drew, size_drewN]); (try dsimp only); omega)); try simp only [World.size_alloc, World.size_drew] at tk2)); (try have tk3 := trackNext hb1 (by assumption) (by ((try simp only [World.size_alloc, World.size_setCell, World.size_drew, size_drewN]); (try dsimp only); omega)))) | (go_at_call 77; refine (result_any _ _ _ _ _ _ _).mono ?_; rintro e w1 ⟨rfl, hb1⟩; have hz1 := hb1.size; (try simp at hz1); obtain ⟨hc1, hf1⟩ := bcellK (w := w) 3 hb1 (by ((try simp only [World.size_alloc, World.size_setCell, World.size_drew, size_drewN]); (try dsimp only); omega)); have hl1 := ltK (n := w.heap.size) (p := 3) (w1 := w1) (by omega); (try (have tk1 := trackAlloc hb1 (by ((try simp only [World.size_alloc, World.size_setCell, World.size_drew, size_drewN]); (try dsimp only); omega)); try simp only [World.size_alloc, World.size_drew] at tk1)); (try (have tk2 := trackAllocD hb1 (by ((try simp only [World.size_alloc, World.size_setCell, World.size_drew, size_drewN]); (try dsimp only); omega)); try simp only [World.size_alloc, World.size_drew] at tk2)); (try have tk3 := trackNext hb1 (by assumption) (by ((try simp only [World.size_alloc, World.size_setCell, World.size_drew, size_drewN]); (try dsimp only); omega)))))
  go_wp2
  (refine bodyPost_ret (v := .tuple #[.agg #[.int .i64 (gz (k3 a b c d (wrap64 (a - c)) (wrap64 (b - d))) (wrap64 (a - c))), .int .i64 (gz (k3 a b c d (wrap64 (a - c)) (wrap64 (b - d))) (wrap64 (b - d)))], .bool (k3 a b c d (wrap64 (a - c)) (wrap64 (b - d)))]) (by simp [results, Tryd.results31, go_sem, cset, gz, *]) rfl ⟨by first | rfl | simp [*], ?_⟩; (repeat (first | with_reducible exact Below.refl _ _ | assumption | with_reducible refine Qdrew ?_ | with_reducible refine QdrewN ?_ | ((with_reducible refine Qset ?_ ?_); exact (by ((try simp only [World.size_alloc, World.size_setCell, World.size_drew, size_drewN]); (try dsimp only); omega))) | ((with_reducible refine Qalloc ?_ ?_); exact (by ((try simp only [World.size_alloc, World.size_setCell, World.size_drew, size_drewN]); (try dsimp only); omega))) | refine Qtrans (by assumption) (by ((try simp only [World.size_alloc, World.size_setCell, World.size_drew, size_drewN]); (try dsimp only); omega)) ?_)))
set_option maxRecDepth 20000 in
set_option maxHeartbeats 1000000 in
theorem implMulGold_any (a b c d : Int) (w : World) :
    Calls Tryd.prog 35 #[.agg #[.int .i64 (a), .int .i64 (b)], .agg #[.int .i64 (c), .int .i64 (d)]] w fun e w' => e = .returned (.tuple #[.agg #[.int .i64 (gz (k3 a b c d (mulA a b c d) (mulB a b c d)) (mulA a b c d)), .int .i64 (gz (k3 a b c d (mulA a b c d) (mulB a b c d)) (mulB a b c d))], .bool (k3 a b c d (mulA a b c d) (mulB a b c d))]) ∧ Below w.heap.size w w' := by
  go_enter Tryd.func35, Tryd.ntmps35
  go_wp2_with fail
  go_region_held3 (fun wx => (∀ bk ofs, bk < w.heap.size + 2 → wx.cell? ⟨bk, ofs, none⟩ = ((((w.alloc (.cells #[.int .i64 a, .int .i64 b] 44)).alloc (.cells #[.int .i64 c, .int .i64 d] 44)).alloc (.cells #[.int .i64 0, .int .i64 0] 44))).cell? ⟨bk, ofs, none⟩) ∧ Below (w.heap.size + 2) ((((w.alloc (.cells #[.int .i64 a, .int .i64 b] 44)).alloc (.cells #[.int .i64 c, .int .i64 d] 44)).alloc (.cells #[.int .i64 0, .int .i64 0] 44))) wx) ((refine stays ?_; ((repeat (first | with_reducible exact Below.refl _ _ | assumption | with_reducible refine Qdrew ?_ | with_reducible refine QdrewN ?_ | ((with_reducible refine Qset ?_ ?_); exact (by ((try simp only [World.size_alloc, World.size_setCell, World.size_drew, size_drewN]); (try dsimp only); omega))) | ((with_reducible refine Qalloc ?_ ?_); exact (by ((try simp only [World.size_alloc, World.size_setCell, World.size_drew, size_drewN]); (try dsimp only); omega))) | refine Qtrans (by assumption) (by ((try simp only [World.size_alloc, World.size_setCell, World.size_drew, size_drewN]); (try dsimp only); omega)) ?_)) <;> (go_split_ands; assumption)))) (first | (go_at_call 79; refine (times_any _ _ _ _ _).mono ?_; rintro e w1 ⟨rfl, hb1⟩; have hz1 := hb1.size; (try simp at hz1); obtain ⟨hc1, hf1⟩ := bcellK (w := w) 3 hb1 (by ((try simp only [World.size_alloc, World.size_setCell, World.size_drew, size_drewN]); (try dsimp only); omega)); have hl1 := ltK (n := w.heap.size) (p := 3) (w1 := w1) (by omega); (try (have tk1 := trackAlloc hb1 (by ((try simp only [World.size_alloc, World.size_setCell, World.size_drew, size_drewN]); (try dsimp only); omega)); try simp only [World.size_alloc, World.size_drew] at tk1)); (try (have tk2 := trackAllocD hb1 (by ((try simp only [World.size_alloc, World.size_setCell, World.size_drew, size_drewN]); (try dsimp only); omega)); try simp only [World.size_alloc, World.size_drew] at tk2)); (try have tk3 := trackNext hb1 (by assumption) (by ((try simp only [World.size_alloc, World.size_setCell, World.size_drew, size_drewN]); (try dsimp only); omega)))) | (go_at_call 77; refine (result_any _ _ _ _ _ _ _).mono ?_; rintro e w1 ⟨rfl, hb1⟩; have hz1 := hb1.size; (try simp at hz1); obtain ⟨hc1, hf1⟩ := bcellK (w := w) 3 hb1 (by ((try simp only [World.size_alloc, World.size_setCell, World.size_drew, size_drewN]); (try dsimp only); omega)); have hl1 := ltK (n := w.heap.size) (p := 3) (w1 := w1) (by omega); (try (have tk1 := trackAlloc hb1 (by ((try simp only [World.size_alloc, World.size_setCell, World.size_drew, size_drewN]); (try dsimp only); omega)); try simp only [World.size_alloc, World.size_drew] at tk1)); (try (have tk2 := trackAllocD hb1 (by ((try simp only [World.size_alloc, World.size_setCell, World.size_drew, size_drewN]); (try dsimp only); omega)); try simp only [World.size_alloc, World.size_drew] at tk2)); (try have tk3 := trackNext hb1 (by assumption) (by ((try simp only [World.size_alloc, World.size_setCell, World.size_drew, size_drewN]); (try dsimp only); omega)))))
  go_wp2
  (refine bodyPost_ret (v := .tuple #[.agg #[.int .i64 (gz (k3 a b c d (mulA a b c d) (mulB a b c d)) (mulA a b c d)), .int .i64 (gz (k3 a b c d (mulA a b c d) (mulB a b c d)) (mulB a b c d))], .bool (k3 a b c d (mulA a b c d) (mulB a b c d))]) (by simp [results, Tryd.results35, go_sem, cset, gz, *]) rfl ⟨by first | rfl | simp [*], ?_⟩; (repeat (first | with_reducible exact Below.refl _ _ | assumption | with_reducible refine Qdrew ?_ | with_reducible refine QdrewN ?_ | ((with_reducible refine Qset ?_ ?_); exact (by ((try simp only [World.size_alloc, World.size_setCell, World.size_drew, size_drewN]); (try dsimp only); omega))) | ((with_reducible refine Qalloc ?_ ?_); exact (by ((try simp only [World.size_alloc, World.size_setCell, World.size_drew, size_drewN]); (try dsimp only); omega))) | refine Qtrans (by assumption) (by ((try simp only [World.size_alloc, World.size_setCell, World.size_drew, size_drewN]); (try dsimp only); omega)) ?_)))

def mateK (a b : Int) : Bool := okB a b && okB (wrap64 (a + b)) (wrap64 (-b))
set_option maxRecDepth 20000 in
set_option maxHeartbeats 1000000 in
theorem implMateOf_any (a b : Int) (w : World) :
    Calls Tryd.prog 34 #[.agg #[.int .i64 (a), .int .i64 (b)]] w fun e w' => e = .returned (.tuple #[.agg #[.int .i64 (gz (mateK a b) (wrap64 (a + b))), .int .i64 (gz (mateK a b) (wrap64 (-b)))], .bool (mateK a b)]) ∧ Below w.heap.size w w' := by
  have hk : k3 a b a b (wrap64 (a + b)) (wrap64 (-b)) = mateK a b := by unfold k3 mateK; cases okB a b <;> rfl
  go_enter Tryd.func34, Tryd.ntmps34
  go_wp2_with fail
  go_region_held3 (fun wx => (∀ bk ofs, bk < w.heap.size + 1 → wx.cell? ⟨bk, ofs, none⟩ = (((w.alloc (.cells #[.int .i64 a, .int .i64 b] 44)).alloc (.cells #[.int .i64 0, .int .i64 0] 44))).cell? ⟨bk, ofs, none⟩) ∧ Below (w.heap.size + 1) (((w.alloc (.cells #[.int .i64 a, .int .i64 b] 44)).alloc (.cells #[.int .i64 0, .int .i64 0] 44))) wx) ((refine stays ?_; ((repeat (first | with_reducible exact Below.refl _ _ | assumption | with_reducible refine Qdrew ?_ | with_reducible refine QdrewN ?_ | ((with_reducible refine Qset ?_ ?_); exact (by ((try simp only [World.size_alloc, World.size_setCell, World.size_drew, size_drewN]); (try dsimp only); omega))) | ((with_reducible refine Qalloc ?_ ?_); exact (by ((try simp only [World.size_alloc, World.size_setCell, World.size_drew, size_drewN]); (try dsimp only); omega))) | refine Qtrans (by assumption) (by ((try simp only [World.size_alloc, World.size_setCell, World.size_drew, size_drewN]); (try dsimp only); omega)) ?_)) <;> (go_split_ands; assumption)))) (first | (go_at_call 80; refine (mate_any _ _ _).mono ?_; rintro e w1 ⟨rfl, hb1⟩; have hz1 := hb1.size; (try simp at hz1); obtain ⟨hc1, hf1⟩ := bcellK (w := w) 2 hb1 (by ((try simp only [World.size_alloc, World.size_setCell, World.size_drew, size_drewN]); (try dsimp only); omega)); have hl1 := ltK (n := w.heap.size) (p := 2) (w1 := w1) (by omega); (try (have tk1 := trackAlloc hb1 (by ((try simp only [World.size_alloc, World.size_setCell, World.size_drew, size_drewN]); (try dsimp only); omega)); try simp only [World.size_alloc, World.size_drew] at tk1)); (try (have tk2 := trackAllocD hb1 (by ((try simp only [World.size_alloc, World.size_setCell, World.size_drew, size_drewN]); (try dsimp only); omega)); try simp only [World.size_alloc, World.size_drew] at tk2)); (try have tk3 := trackNext hb1 (by assumption) (by ((try simp only [World.size_alloc, World.size_setCell, World.size_drew, size_drewN]); (try dsimp only); omega)))) | (go_at_call 77; refine (result_any _ _ _ _ _ _ _).mono ?_; rintro e w1 ⟨rfl, hb1⟩; have hz1 := hb1.size; (try simp at hz1); obtain ⟨hc1, hf1⟩ := bcellK (w := w) 2 hb1 (by ((try simp only [World.size_alloc, World.size_setCell, World.size_drew, size_drewN]); (try dsimp only); omega)); have hl1 := ltK (n := w.heap.size) (p := 2) (w1 := w1) (by omega); (try (have tk1 := trackAlloc hb1 (by ((try simp only [World.size_alloc, World.size_setCell, World.size_drew, size_drewN]); (try dsimp only); omega)); try simp only [World.size_alloc, World.size_drew] at tk1)); (try (have tk2 := trackAllocD hb1 (by ((try simp only [World.size_alloc, World.size_setCell, World.size_drew, size_drewN]); (try dsimp only); omega)); try simp only [World.size_alloc, World.size_drew] at tk2)); (try have tk3 := trackNext hb1 (by assumption) (by ((try simp only [World.size_alloc, World.size_setCell, World.size_drew, size_drewN]); (try dsimp only); omega)))))
  go_wp2
  (refine bodyPost_ret (v := .tuple #[.agg #[.int .i64 (gz (mateK a b) (wrap64 (a + b))), .int .i64 (gz (mateK a b) (wrap64 (-b)))], .bool (mateK a b)]) (by simp [results, Tryd.results34, go_sem, cset, gz, *]) rfl ⟨by first | rfl | simp [*], ?_⟩; (repeat (first | with_reducible exact Below.refl _ _ | assumption | with_reducible refine Qdrew ?_ | with_reducible refine QdrewN ?_ | ((with_reducible refine Qset ?_ ?_); exact (by ((try simp only [World.size_alloc, World.size_setCell, World.size_drew, size_drewN]); (try dsimp only); omega))) | ((with_reducible refine Qalloc ?_ ?_); exact (by ((try simp only [World.size_alloc, World.size_setCell, World.size_drew, size_drewN]); (try dsimp only); omega))) | refine Qtrans (by assumption) (by ((try simp only [World.size_alloc, World.size_setCell, World.size_drew, size_drewN]); (try dsimp only); omega)) ?_)))

end Go.Proofs.YtilbhingfnjppaaDoor

namespace Go.Proofs.YtilbhingfnjppaaDoor

/-! ### The root of 5 is no ratio -/
theorem sq_mod5 (p : Int) (h : p * p % 5 = 0) : p % 5 = 0 := by
  have h5 : p % 5 = 0 ∨ p % 5 = 1 ∨ p % 5 = 2 ∨ p % 5 = 3 ∨ p % 5 = 4 := by omega
  rw [Int.mul_emod] at h
  rcases h5 with e | e | e | e | e <;> rw [e] at h <;> first | exact e | (exfalso; revert h; decide)
theorem irr_nat : ∀ (n : Nat) (p q : Int), q.natAbs ≤ n → p * p = 5 * (q * q) → q = 0
  | 0, p, q, hn, _ => by omega
  | n + 1, p, q, hn, h => by
    by_cases hq : q = 0
    · exact hq
    · have hp : p % 5 = 0 := sq_mod5 p (by rw [h]; omega)
      obtain ⟨r, rfl⟩ : ∃ r, p = 5 * r := ⟨p / 5, by omega⟩
      have h1 : q * q = 5 * (r * r) := by
        have e : 5 * r * (5 * r) = 5 * (5 * (r * r)) := by rw [Int.mul_assoc, Int.mul_left_comm r 5 r]
        rw [e] at h; omega
      have hq5 : q % 5 = 0 := sq_mod5 q (by rw [h1]; omega)
      obtain ⟨s, rfl⟩ : ∃ s, q = 5 * s := ⟨q / 5, by omega⟩
      have h2 : r * r = 5 * (s * s) := by
        have e : 5 * s * (5 * s) = 5 * (5 * (s * s)) := by rw [Int.mul_assoc, Int.mul_left_comm s 5 s]
        rw [e] at h1; omega
      have := irr_nat n r s (by omega) h2
      omega
theorem irr (p q : Int) (h : p * p = 5 * (q * q)) : q = 0 ∧ p = 0 := by
  have hq := irr_nat q.natAbs p q (Nat.le_refl _) h
  subst hq
  refine ⟨rfl, ?_⟩
  have : p * p = 0 := by rw [h]; rfl
  rcases Int.mul_eq_zero.1 this with h | h <;> exact h

/-! ### The sign -/
/-- The sign of A + B t: that of p + q r, with p = 2 A + B, q = B and r the root of 5. -/
def sgn (a b : Int) : Int :=
  if 2 * a + b = 0 ∧ b = 0 then 0
  else if (0 ≤ 2 * a + b ∧ 0 ≤ b) ∨ (0 < 2 * a + b ∧ 5 * b * b < (2 * a + b) * (2 * a + b)) ∨ (0 < b ∧ (2 * a + b) * (2 * a + b) ≤ 5 * b * b) then 1 else -1
/-- Numbers whose squares an int holds with room. -/
def mid (a : Int) : Prop := -100000000 ≤ a ∧ a ≤ 100000000
theorem sq_nonneg (p : Int) : 0 ≤ p * p := by
  rcases Int.le_total 0 p with h | h
  · exact Int.mul_nonneg h h
  · exact Int.mul_nonneg_of_nonpos_of_nonpos h h
theorem sq_le (p m : Int) (h : -m ≤ p ∧ p ≤ m) : p * p ≤ m * m := by
  have h1 : 0 ≤ (m - p) * (m + p) := Int.mul_nonneg (by omega) (by omega)
  have e : (m - p) * (m + p) = m * m - p * p := by rw [Int.sub_mul, Int.mul_add, Int.mul_add, Int.mul_comm p m]; omega
  omega
theorem five_sq (b : Int) : 5 * b * b = 5 * (b * b) := by rw [Int.mul_assoc]
theorem sgn_bounds (a b : Int) (ha : -100000000 ≤ a ∧ a ≤ 100000000) (hb : -100000000 ≤ b ∧ b ≤ 100000000) :
    (0 ≤ (2 * a + b) * (2 * a + b) ∧ (2 * a + b) * (2 * a + b) ≤ 90000000000000000) ∧ (0 ≤ 5 * b * b ∧ 5 * b * b ≤ 50000000000000000) := by
  have h1 := sq_nonneg (2 * a + b)
  have h2 := sq_le (2 * a + b) 300000000 (by omega)
  have h3 := sq_nonneg b
  have h4 := sq_le b 100000000 (by omega)
  rw [five_sq]
  omega
theorem sgn_irr (a b : Int) (h : (2 * a + b) * (2 * a + b) = 5 * b * b) : b = 0 ∧ 2 * a + b = 0 := by
  rw [five_sq] at h; exact irr _ _ h

/-! ### The sign is monotone in A; the floor -/
/-- Positive or zero. -/
def geS (a b : Int) : Prop := (0 ≤ 2 * a + b ∧ 0 ≤ b) ∨ (0 ≤ 2 * a + b ∧ 5 * b * b ≤ (2 * a + b) * (2 * a + b)) ∨ (0 ≤ b ∧ (2 * a + b) * (2 * a + b) ≤ 5 * b * b)
theorem sgn_range (a b : Int) : sgn a b = 0 ∨ sgn a b = 1 ∨ sgn a b = -1 := by unfold sgn; (repeat' split) <;> simp
theorem sq_pos (p : Int) : p = 0 ∨ 1 ≤ p * p := by
  rcases Int.lt_trichotomy p 0 with h | h | h
  · right; have := Int.mul_pos_of_neg_of_neg h h; omega
  · exact Or.inl h
  · right; have := Int.mul_pos h h; omega
theorem sgn_ge (a b : Int) : 0 ≤ sgn a b ↔ geS a b := by
  have hi := sgn_irr a b
  have h1 := sq_nonneg (2 * a + b)
  have h2 := sq_nonneg b
  have h3 := five_sq b
  have h4 : b = 0 ∨ 1 ≤ b * b := sq_pos b
  have h5 : 2 * a + b = 0 ∨ 1 ≤ (2 * a + b) * (2 * a + b) := sq_pos _
  have h6 : 2 * a + b = 0 → (2 * a + b) * (2 * a + b) = 0 := fun h => by rw [h]; rfl
  have h7 : b = 0 → b * b = 0 := fun h => by rw [h]; rfl
  unfold sgn geS
  by_cases h0 : 2 * a + b = 0 ∧ b = 0
  · obtain ⟨h, rfl⟩ := h0
    rw [if_pos ⟨h, rfl⟩]
    simp [h]
  · rw [if_neg h0]
    by_cases hp : 0 ≤ 2 * a + b <;> by_cases hq : 0 ≤ b
    · rw [if_pos (Or.inl ⟨hp, hq⟩)]; simp [hp, hq]
    · split <;> omega
    · split <;> omega
    · split <;> omega
theorem sq_mono {p q : Int} (hp : 0 ≤ p) (h : p ≤ q) : p * p ≤ q * q := Int.mul_le_mul h h hp (by omega)
theorem sq_anti {p q : Int} (hq : q ≤ 0) (h : p ≤ q) : q * q ≤ p * p := by
  have := sq_mono (p := -q) (q := -p) (by omega) (by omega)
  rwa [Int.neg_mul_neg, Int.neg_mul_neg] at this
theorem geS_mono {a a' b : Int} (h : geS a b) (ha : a ≤ a') : geS a' b := by
  unfold geS at *
  by_cases hp : 0 ≤ 2 * a + b
  · have := sq_mono hp (show 2 * a + b ≤ 2 * a' + b by omega)
    omega
  · by_cases hp' : 0 ≤ 2 * a' + b
    · by_cases hb : 0 ≤ b
      · exact Or.inl ⟨hp', hb⟩
      · omega
    · have := sq_anti (show 2 * a' + b ≤ 0 by omega) (show 2 * a + b ≤ 2 * a' + b by omega)
      omega
theorem sgn_mono {a a' b : Int} (h : 0 ≤ sgn a b) (ha : a ≤ a') : 0 ≤ sgn a' b := (sgn_ge a' b).2 (geS_mono ((sgn_ge a b).1 h) ha)

/-- n is the greatest integer that is not greater than a + b t. -/
def IsFloor (a b n : Int) : Prop := 0 ≤ sgn (a - n) b ∧ ¬ 0 ≤ sgn (a - (n + 1)) b
theorem floor_unique {a b n m : Int} (h1 : IsFloor a b n) (h2 : IsFloor a b m) : n = m := by
  rcases Int.lt_trichotomy n m with h | h | h
  · exact absurd (sgn_mono h2.1 (show a - m ≤ a - (n + 1) by omega)) h1.2
  · exact h
  · exact absurd (sgn_mono h1.1 (show a - n ≤ a - (m + 1) by omega)) h2.2
theorem geS_low (a b : Int) (ha : -1000000 ≤ a) (hb : -1000000 ≤ b ∧ b ≤ 1000000) (k : Int) (hk : 4000000 ≤ k) : geS (a + k) b := by
  unfold geS
  by_cases h : 0 ≤ b
  · exact Or.inl ⟨by omega, h⟩
  · refine Or.inr (Or.inl ⟨by omega, ?_⟩)
    have h1 := sq_le b 1000000 hb
    have h2 := sq_mono (p := 5000000) (q := 2 * (a + k) + b) (by omega) (by omega)
    rw [five_sq]; omega
theorem not_geS_high (a b : Int) (ha : a ≤ 1000000) (hb : -1000000 ≤ b ∧ b ≤ 1000000) (k : Int) (hk : 4000000 ≤ k) : ¬ geS (a - k) b := by
  unfold geS
  have h1 := sq_le b 1000000 hb
  have h2 := sq_anti (p := 2 * (a - k) + b) (q := -5000000) (by omega) (by omega)
  rw [five_sq]; omega

/-- The search between two bounds that the floor goes by. -/
def search (a b : Int) : Nat → Int → Int → Int
  | 0, l, _ => l
  | n + 1, l, h => if 1 < h - l then (if 0 ≤ sgn (a - (l + (h - l) / 2)) b then search a b n (l + (h - l) / 2) h else search a b n l (l + (h - l) / 2)) else l
theorem search_floor (a b : Int) : ∀ (n : Nat) (l h : Int), l < h → (h - l).toNat ≤ n + 1 → 0 ≤ sgn (a - l) b → ¬ 0 ≤ sgn (a - h) b → IsFloor a b (search a b n l h)
  | 0, l, h, hlt, hn, h1, h2 => by
    obtain rfl : h = l + 1 := by omega
    exact ⟨h1, h2⟩
  | n + 1, l, h, hlt, hn, h1, h2 => by
    unfold search
    by_cases hc : 1 < h - l
    · rw [if_pos hc]
      split
      · exact search_floor a b n _ h (by omega) (by omega) (by assumption) h2
      · exact search_floor a b n l _ (by omega) (by omega) h1 (by assumption)
    · rw [if_neg hc]
      obtain rfl : h = l + 1 := by omega
      exact ⟨h1, h2⟩
/-- The floor of a Gold. -/
def flo (a b : Int) : Int := search a b 10000000 (-5000000) 5000000
theorem sgn_low (a b : Int) (ha : -1000000 ≤ a ∧ a ≤ 1000000) (hb : -1000000 ≤ b ∧ b ≤ 1000000) (k : Int) (hk : 4000000 ≤ k) : 0 ≤ sgn (a - -k) b := by
  rw [sgn_ge, show a - -k = a + k by omega]; exact geS_low a b ha.1 hb k hk
theorem sgn_high (a b : Int) (ha : -1000000 ≤ a ∧ a ≤ 1000000) (hb : -1000000 ≤ b ∧ b ≤ 1000000) (k : Int) (hk : 4000000 ≤ k) : ¬ 0 ≤ sgn (a - k) b := by
  rw [sgn_ge]; exact not_geS_high a b ha.2 hb k hk
theorem flo_is (a b : Int) (ha : -1000000 ≤ a ∧ a ≤ 1000000) (hb : -1000000 ≤ b ∧ b ≤ 1000000) : IsFloor a b (flo a b) :=
  search_floor a b _ _ _ (by omega) (by omega) (sgn_low a b ha hb 5000000 (by omega)) (sgn_high a b ha hb 5000000 (by omega))
theorem flo_eq {a b n : Int} (ha : -1000000 ≤ a ∧ a ≤ 1000000) (hb : -1000000 ≤ b ∧ b ≤ 1000000) (h : IsFloor a b n) : n = flo a b := floor_unique h (flo_is a b ha hb)
end Go.Proofs.YtilbhingfnjppaaDoor

namespace Go.Proofs.YtilbhingfnjppaaDoor
open Go.RowKit
set_option maxRecDepth 20000 in
set_option maxHeartbeats 1000000 in
theorem sign_any (a b : Int) (w : World) (ha : -100000000 ≤ a ∧ a ≤ 100000000) (hb : -100000000 ≤ b ∧ b ≤ 100000000) :
    Calls Tryd.prog 75 #[.agg #[.int .i64 (a), .int .i64 (b)]] w fun e w' => e = .returned (.int .i64 (sgn a b)) ∧ Below w.heap.size w w' := by
  obtain ⟨⟨h1, h2⟩, h3, h4⟩ := sgn_bounds a b ha hb
  obtain ⟨ha1, ha2⟩ := ha
  obtain ⟨hb1, hb2⟩ := hb
  go_enter Tryd.func75, Tryd.ntmps75
  go_wp2
  go_quiet (fail)
  go_wp2
  all_goals go_ret
  all_goals refine ⟨ret_int (by (try (simp only [Bool.not_eq_eq_eq_not, Bool.not_true, Bool.not_false, Bool.not_eq_true', Bool.not_eq_false', beq_iff_eq, beq_eq_false_iff_ne, bne_iff_ne, bne_eq_false_iff_eq, ne_eq, decide_eq_true_eq, decide_eq_false_iff_not] at *)); unfold sgn; (repeat' split) <;> omega), ?_⟩
  all_goals (repeat (first | with_reducible exact Below.refl _ _ | assumption | with_reducible refine Qdrew ?_ | with_reducible refine QdrewN ?_ | ((with_reducible refine Qset ?_ ?_); exact (by ((try simp only [World.size_alloc, World.size_setCell, World.size_drew, size_drewN]); (try dsimp only); omega))) | ((with_reducible refine Qalloc ?_ ?_); exact (by ((try simp only [World.size_alloc, World.size_setCell, World.size_drew, size_drewN]); (try dsimp only); omega))) | refine Qtrans (by assumption) (by ((try simp only [World.size_alloc, World.size_setCell, World.size_drew, size_drewN]); (try dsimp only); omega)) ?_))
end Go.Proofs.YtilbhingfnjppaaDoor

namespace Go.Proofs.YtilbhingfnjppaaDoor
open Go.RowKit
/-- An int that holds a difference of two such without wrapping. -/
theorem wrap_in (n : Int) (h : -9000000000000000000 ≤ n ∧ n ≤ 9000000000000000000) : wrap64 n = n := IntWalk.wrap64_in n (by omega)
theorem minus_in (a b c d : Int) (w : World) (ha : -50000000 ≤ a ∧ a ≤ 50000000) (hb : -50000000 ≤ b ∧ b ≤ 50000000) (hc : -50000000 ≤ c ∧ c ≤ 50000000) (hd : -50000000 ≤ d ∧ d ≤ 50000000) :
    Calls Tryd.prog 68 #[.agg #[.int .i64 (a), .int .i64 (b)], .agg #[.int .i64 (c), .int .i64 (d)]] w fun e w' => e = .returned (.agg #[.int .i64 (a - c), .int .i64 (b - d)]) ∧ Below w.heap.size w w' := by
  refine (minus_any a b c d w).mono fun e w' h => ⟨h.1.trans ?_, h.2⟩
  rw [wrap_in (a - c) (by omega), wrap_in (b - d) (by omega)]
set_option maxRecDepth 20000 in
set_option maxHeartbeats 400000 in
theorem compare_any (a b c d : Int) (w : World) (ha : -50000000 ≤ a ∧ a ≤ 50000000) (hb : -50000000 ≤ b ∧ b ≤ 50000000) (hc : -50000000 ≤ c ∧ c ≤ 50000000) (hd : -50000000 ≤ d ∧ d ≤ 50000000) :
    Calls Tryd.prog 71 #[.agg #[.int .i64 (a), .int .i64 (b)], .agg #[.int .i64 (c), .int .i64 (d)]] w fun e w' => e = .returned (.int .i64 (sgn (a - c) (b - d))) ∧ Below w.heap.size w w' := by
  go_enter Tryd.func71, Tryd.ntmps71
  go_wp2_with (first | (go_at_call 68; refine (minus_in _ _ _ _ _ ha hb hc hd).mono ?_; rintro e w1 ⟨rfl, hb1⟩; have hz1 := hb1.size; (try simp at hz1); obtain ⟨hc1, hf1⟩ := bcellK (w := w) 2 hb1 (by ((try simp only [World.size_alloc, World.size_setCell, World.size_drew, size_drewN]); (try dsimp only); omega)); have hl1 := ltK (n := w.heap.size) (p := 2) (w1 := w1) (by omega); (try (have tk1 := trackAlloc hb1 (by ((try simp only [World.size_alloc, World.size_setCell, World.size_drew, size_drewN]); (try dsimp only); omega)); try simp only [World.size_alloc, World.size_drew] at tk1)); (try (have tk2 := trackAllocD hb1 (by ((try simp only [World.size_alloc, World.size_setCell, World.size_drew, size_drewN]); (try dsimp only); omega)); try simp only [World.size_alloc, World.size_drew] at tk2)); (try have tk3 := trackNext hb1 (by assumption) (by ((try simp only [World.size_alloc, World.size_setCell, World.size_drew, size_drewN]); (try dsimp only); omega)))) | (go_at_call 75; refine (sign_any _ _ _ (by omega) (by omega)).mono ?_; rintro e w1 ⟨rfl, hb1⟩; have hz1 := hb1.size; (try simp at hz1); obtain ⟨hc1, hf1⟩ := bcellK (w := w) 2 hb1 (by ((try simp only [World.size_alloc, World.size_setCell, World.size_drew, size_drewN]); (try dsimp only); omega)); have hl1 := ltK (n := w.heap.size) (p := 2) (w1 := w1) (by omega); (try (have tk1 := trackAlloc hb1 (by ((try simp only [World.size_alloc, World.size_setCell, World.size_drew, size_drewN]); (try dsimp only); omega)); try simp only [World.size_alloc, World.size_drew] at tk1)); (try (have tk2 := trackAllocD hb1 (by ((try simp only [World.size_alloc, World.size_setCell, World.size_drew, size_drewN]); (try dsimp only); omega)); try simp only [World.size_alloc, World.size_drew] at tk2)); (try have tk3 := trackNext hb1 (by assumption) (by ((try simp only [World.size_alloc, World.size_setCell, World.size_drew, size_drewN]); (try dsimp only); omega)))))
  (go_ret; exact ⟨rfl, by (repeat (first | with_reducible exact Below.refl _ _ | assumption | with_reducible refine Qdrew ?_ | with_reducible refine QdrewN ?_ | ((with_reducible refine Qset ?_ ?_); exact (by ((try simp only [World.size_alloc, World.size_setCell, World.size_drew, size_drewN]); (try dsimp only); omega))) | ((with_reducible refine Qalloc ?_ ?_); exact (by ((try simp only [World.size_alloc, World.size_setCell, World.size_drew, size_drewN]); (try dsimp only); omega))) | refine Qtrans (by assumption) (by ((try simp only [World.size_alloc, World.size_setCell, World.size_drew, size_drewN]); (try dsimp only); omega)) ?_))⟩)

theorem mate_in (a b : Int) (w : World) (ha : -50000000 ≤ a ∧ a ≤ 50000000) (hb : -50000000 ≤ b ∧ b ≤ 50000000) :
    Calls Tryd.prog 80 #[.agg #[.int .i64 (a), .int .i64 (b)]] w fun e w' => e = .returned (.agg #[.int .i64 (a + b), .int .i64 (-b)]) ∧ Below w.heap.size w w' := by
  refine (mate_any a b w).mono fun e w' h => ⟨h.1.trans ?_, h.2⟩
  rw [wrap_in (a + b) (by omega), wrap_in (-b) (by omega)]
theorem okB_true {a b : Int} (h : okB a b = true) : (-1000000 ≤ a ∧ a ≤ 1000000) ∧ (-1000000 ≤ b ∧ b ≤ 1000000) := by
  unfold okB at h; rw [Bool.and_eq_true, inB_true, inB_true] at h; exact h

set_option maxRecDepth 20000 in
set_option maxHeartbeats 400000 in
theorem implSignOf_any (a b : Int) (w : World) :
    Calls Tryd.prog 30 #[.agg #[.int .i64 (a), .int .i64 (b)]] w fun e w' => e = .returned (.int .i64 (gz (okB a b) (sgn a b))) ∧ Below w.heap.size w w' := by
  cases h1 : okB a b
  case' true => obtain ⟨ha, hb⟩ := okB_true h1
  all_goals
    go_enter Tryd.func30, Tryd.ntmps30
    go_wp2_with (first | (go_at_call 74; refine (implGoldOk_any _ _ _).mono ?_; rintro e w1 ⟨rfl, hb1⟩; have hz1 := hb1.size; (try simp at hz1); obtain ⟨hc1, hf1⟩ := bcellK (w := w) 1 hb1 (by ((try simp only [World.size_alloc, World.size_setCell, World.size_drew, size_drewN]); (try dsimp only); omega)); have hl1 := ltK (n := w.heap.size) (p := 1) (w1 := w1) (by omega); (try (have tk1 := trackAlloc hb1 (by ((try simp only [World.size_alloc, World.size_setCell, World.size_drew, size_drewN]); (try dsimp only); omega)); try simp only [World.size_alloc, World.size_drew] at tk1)); (try (have tk2 := trackAllocD hb1 (by ((try simp only [World.size_alloc, World.size_setCell, World.size_drew, size_drewN]); (try dsimp only); omega)); try simp only [World.size_alloc, World.size_drew] at tk2)); (try have tk3 := trackNext hb1 (by assumption) (by ((try simp only [World.size_alloc, World.size_setCell, World.size_drew, size_drewN]); (try dsimp only); omega)))) | (go_at_call 75; refine (sign_any _ _ _ (by omega) (by omega)).mono ?_; rintro e w1 ⟨rfl, hb1⟩; have hz1 := hb1.size; (try simp at hz1); obtain ⟨hc1, hf1⟩ := bcellK (w := w) 1 hb1 (by ((try simp only [World.size_alloc, World.size_setCell, World.size_drew, size_drewN]); (try dsimp only); omega)); have hl1 := ltK (n := w.heap.size) (p := 1) (w1 := w1) (by omega); (try (have tk1 := trackAlloc hb1 (by ((try simp only [World.size_alloc, World.size_setCell, World.size_drew, size_drewN]); (try dsimp only); omega)); try simp only [World.size_alloc, World.size_drew] at tk1)); (try (have tk2 := trackAllocD hb1 (by ((try simp only [World.size_alloc, World.size_setCell, World.size_drew, size_drewN]); (try dsimp only); omega)); try simp only [World.size_alloc, World.size_drew] at tk2)); (try have tk3 := trackNext hb1 (by assumption) (by ((try simp only [World.size_alloc, World.size_setCell, World.size_drew, size_drewN]); (try dsimp only); omega)))))
  all_goals go_ret
  all_goals exact ⟨by simp [gz, *], by (repeat (first | with_reducible exact Below.refl _ _ | assumption | with_reducible refine Qdrew ?_ | with_reducible refine QdrewN ?_ | ((with_reducible refine Qset ?_ ?_); exact (by ((try simp only [World.size_alloc, World.size_setCell, World.size_drew, size_drewN]); (try dsimp only); omega))) | ((with_reducible refine Qalloc ?_ ?_); exact (by ((try simp only [World.size_alloc, World.size_setCell, World.size_drew, size_drewN]); (try dsimp only); omega))) | refine Qtrans (by assumption) (by ((try simp only [World.size_alloc, World.size_setCell, World.size_drew, size_drewN]); (try dsimp only); omega)) ?_))⟩

end Go.Proofs.YtilbhingfnjppaaDoor

namespace Go.Proofs.YtilbhingfnjppaaDoor
open Go.RowKit
theorem flo_at {a b l : Int} (ha : -1000000 ≤ a ∧ a ≤ 1000000) (hb : -1000000 ≤ b ∧ b ≤ 1000000) (h1 : 0 ≤ sgn (a - l) b) (h2 : sgn (a - (l + 1)) b < 0) : l = flo a b :=
  flo_eq ha hb ⟨h1, by omega⟩
set_option maxRecDepth 20000 in
set_option maxHeartbeats 1000000 in
theorem floor_any (a b : Int) (w : World) (ha : -1000000 ≤ a ∧ a ≤ 1000000) (hb : -1000000 ≤ b ∧ b ≤ 1000000) :
    Calls Tryd.prog 101 #[.agg #[.int .i64 (a), .int .i64 (b)]] w fun e w' => e = .returned (.int .i64 (flo a b)) ∧ Below w.heap.size w w' := by
  have hl := sgn_low a b ha hb 5000000 (by omega)
  have hh : sgn (a - 5000000) b < 0 := by have := sgn_high a b ha hb 5000000 (by omega); omega
  go_enter Tryd.func101, Tryd.ntmps101
  go_wp2
  go_loopw [3, 4] (fun lo hi wx => ∃ l h : Int, lo = .int .i64 l ∧ hi = .int .i64 h ∧ -5000000 ≤ l ∧ l < h ∧ h ≤ 5000000 ∧ 0 ≤ sgn (a - l) b ∧ sgn (a - h) b < 0 ∧ Below (w.heap.size + 1) (w.alloc (.cells #[.int .i64 a, .int .i64 b] 44)) wx) (fun lo hi _ => (intOf hi - intOf lo).toNat)
  case atStart => exact ⟨-5000000, 5000000, rfl, rfl, by omega, by omega, by omega, hl, hh, by (repeat (first | with_reducible exact Below.refl _ _ | assumption | with_reducible refine Qdrew ?_ | with_reducible refine QdrewN ?_ | ((with_reducible refine Qset ?_ ?_); exact (by ((try simp only [World.size_alloc, World.size_setCell, World.size_drew, size_drewN]); (try dsimp only); omega))) | ((with_reducible refine Qalloc ?_ ?_); exact (by ((try simp only [World.size_alloc, World.size_setCell, World.size_drew, size_drewN]); (try dsimp only); omega))) | refine Qtrans (by assumption) (by ((try simp only [World.size_alloc, World.size_setCell, World.size_drew, size_drewN]); (try dsimp only); omega)) ?_))⟩
  case round =>
    obtain ⟨l, h, rfl, rfl, h1, h2, h3, h4, h5, hbel⟩ := hrel
    obtain ⟨hst, _⟩ := stays hbel
    have hz := hbel.size
    simp only [World.size_alloc] at hz
    by_cases hlt : 1 < h - l
    · have hm1 : l < l + (h - l) / 2 := by omega
      have hm2 : l + (h - l) / 2 < h := by omega
      go_wp2_with (first | (go_at_call 71; refine (compare_any _ _ _ _ _ (by omega) (by omega) (by omega) (by omega)).mono ?_; rintro e w1 ⟨rfl, hb1⟩; have hz1 := hb1.size; (try simp at hz1); obtain ⟨hc1, hf1⟩ := bcellK (w := w) 1 hb1 (by ((try simp only [World.size_alloc, World.size_setCell, World.size_drew, size_drewN]); (try dsimp only); omega)); have hl1 := ltK (n := w.heap.size) (p := 1) (w1 := w1) (by omega); (try (have tk1 := trackAlloc hb1 (by ((try simp only [World.size_alloc, World.size_setCell, World.size_drew, size_drewN]); (try dsimp only); omega)); try simp only [World.size_alloc, World.size_drew] at tk1)); (try (have tk2 := trackAllocD hb1 (by ((try simp only [World.size_alloc, World.size_setCell, World.size_drew, size_drewN]); (try dsimp only); omega)); try simp only [World.size_alloc, World.size_drew] at tk2)); (try have tk3 := trackNext hb1 (by assumption) (by ((try simp only [World.size_alloc, World.size_setCell, World.size_drew, size_drewN]); (try dsimp only); omega)))))
      all_goals
        go_roundw
        case rel => first | exact ⟨_, _, rfl, rfl, by omega, by omega, by omega, by assumption, by assumption, by (repeat (first | with_reducible exact Below.refl _ _ | assumption | with_reducible refine Qdrew ?_ | with_reducible refine QdrewN ?_ | ((with_reducible refine Qset ?_ ?_); exact (by ((try simp only [World.size_alloc, World.size_setCell, World.size_drew, size_drewN]); (try dsimp only); omega))) | ((with_reducible refine Qalloc ?_ ?_); exact (by ((try simp only [World.size_alloc, World.size_setCell, World.size_drew, size_drewN]); (try dsimp only); omega))) | refine Qtrans (by assumption) (by ((try simp only [World.size_alloc, World.size_setCell, World.size_drew, size_drewN]); (try dsimp only); omega)) ?_))⟩ | exact ⟨_, _, rfl, rfl, by omega, by omega, by omega, by simpa using (by assumption), by assumption, by (repeat (first | with_reducible exact Below.refl _ _ | assumption | with_reducible refine Qdrew ?_ | with_reducible refine QdrewN ?_ | ((with_reducible refine Qset ?_ ?_); exact (by ((try simp only [World.size_alloc, World.size_setCell, World.size_drew, size_drewN]); (try dsimp only); omega))) | ((with_reducible refine Qalloc ?_ ?_); exact (by ((try simp only [World.size_alloc, World.size_setCell, World.size_drew, size_drewN]); (try dsimp only); omega))) | refine Qtrans (by assumption) (by ((try simp only [World.size_alloc, World.size_setCell, World.size_drew, size_drewN]); (try dsimp only); omega)) ?_))⟩
        case measure => simp [intOf]; omega
    · obtain rfl : h = l + 1 := by omega
      go_wp2
      go_ret
      exact ⟨ret_int (flo_at ha hb h4 h5), by (repeat (first | with_reducible exact Below.refl _ _ | assumption | with_reducible refine Qdrew ?_ | with_reducible refine QdrewN ?_ | ((with_reducible refine Qset ?_ ?_); exact (by ((try simp only [World.size_alloc, World.size_setCell, World.size_drew, size_drewN]); (try dsimp only); omega))) | ((with_reducible refine Qalloc ?_ ?_); exact (by ((try simp only [World.size_alloc, World.size_setCell, World.size_drew, size_drewN]); (try dsimp only); omega))) | refine Qtrans (by assumption) (by ((try simp only [World.size_alloc, World.size_setCell, World.size_drew, size_drewN]); (try dsimp only); omega)) ?_))⟩
end Go.Proofs.YtilbhingfnjppaaDoor

namespace Go.Proofs.YtilbhingfnjppaaDoor
open Go.RowKit
/-- The powers of t (or of its inverse): A and B of the k-th one. -/
def pw (neg : Bool) : Nat → Int × Int
  | 0 => (1, 0)
  | k + 1 => if neg then ((pw neg k).2 - (pw neg k).1, (pw neg k).1) else ((pw neg k).2, (pw neg k).1 + (pw neg k).2)
theorem pw_fin : ∀ (neg : Bool) (k : Fin 26), (-200000 ≤ (pw neg k.val).1 ∧ (pw neg k.val).1 ≤ 200000) ∧ (-200000 ≤ (pw neg k.val).2 ∧ (pw neg k.val).2 ≤ 200000) := by decide +kernel
theorem pw_small (neg : Bool) (k : Nat) (h : k ≤ 25) : (-200000 ≤ (pw neg k).1 ∧ (pw neg k).1 ≤ 200000) ∧ (-200000 ≤ (pw neg k).2 ∧ (pw neg k).2 ≤ 200000) := pw_fin neg ⟨k, by omega⟩
theorem pw_pos (k : Nat) : pw false (k + 1) = ((pw false k).2, (pw false k).1 + (pw false k).2) := by simp [pw]
theorem pw_neg (k : Nat) : pw true (k + 1) = ((pw true k).2 - (pw true k).1, (pw true k).1) := by simp [pw]
theorem mul_pos1 (a b : Int) (ha : -200000 ≤ a ∧ a ≤ 200000) (hb : -200000 ≤ b ∧ b ≤ 200000) : mulA a b 0 1 = b ∧ mulB a b 0 1 = a + b := by
  unfold mulA mulB
  simp only [Int.mul_zero, Int.mul_one]
  rw [wrap_in 0 (by omega), wrap_in b (by omega), wrap_in a (by omega), wrap_in (0 + b) (by omega), wrap_in (a + 0) (by omega), wrap_in (a + 0 + b) (by omega)]
  omega
theorem mul_neg1 (a b : Int) (ha : -200000 ≤ a ∧ a ≤ 200000) (hb : -200000 ≤ b ∧ b ≤ 200000) : mulA a b (-1) 1 = b - a ∧ mulB a b (-1) 1 = a := by
  unfold mulA mulB
  simp only [Int.mul_neg, Int.mul_one]
  rw [wrap_in (-a) (by omega), wrap_in b (by omega), wrap_in a (by omega), wrap_in (-a + b) (by omega), wrap_in (-b) (by omega), wrap_in (a + -b) (by omega), wrap_in (a + -b + b) (by omega)]
  omega
def pwN (n : Int) : Int × Int := pw (decide (n < 0)) n.natAbs

/-! ### The program's powers: products -/
theorem times_pos (a b : Int) (w : World) (ha : -200000 ≤ a ∧ a ≤ 200000) (hb : -200000 ≤ b ∧ b ≤ 200000) :
    Calls Tryd.prog 79 #[.agg #[.int .i64 (a), .int .i64 (b)], .agg #[.int .i64 (0), .int .i64 (1)]] w fun e w' => e = .returned (.agg #[.int .i64 (b), .int .i64 (a + b)]) ∧ Below w.heap.size w w' := by
  refine (times_any a b 0 1 w).mono fun e w' h => ⟨h.1.trans ?_, h.2⟩
  rw [(mul_pos1 a b ha hb).1, (mul_pos1 a b ha hb).2]
theorem times_neg (a b : Int) (w : World) (ha : -200000 ≤ a ∧ a ≤ 200000) (hb : -200000 ≤ b ∧ b ≤ 200000) :
    Calls Tryd.prog 79 #[.agg #[.int .i64 (a), .int .i64 (b)], .agg #[.int .i64 (-1), .int .i64 (1)]] w fun e w' => e = .returned (.agg #[.int .i64 (b - a), .int .i64 (a)]) ∧ Below w.heap.size w w' := by
  refine (times_any a b (-1) 1 w).mono fun e w' h => ⟨h.1.trans ?_, h.2⟩
  rw [(mul_neg1 a b ha hb).1, (mul_neg1 a b ha hb).2]
/-! ### Every argument, and the law -/
theorem pwN_pos (n : Int) (h : 0 ≤ n) : pwN n = pw false n.natAbs := by unfold pwN; rw [decide_eq_false (by omega)]
theorem pwN_neg (n : Int) (h : n < 0) : pwN n = pw true n.natAbs := by unfold pwN; rw [decide_eq_true h]
end Go.Proofs.YtilbhingfnjppaaDoor

namespace Go.Proofs.YtilbhingfnjppaaDoor
open Go.RowKit
/-! ### The norm is 0 at 0 alone; nothing wraps -/
theorem prod_le (p q m : Int) (hp : -m ≤ p ∧ p ≤ m) (hq : -m ≤ q ∧ q ≤ m) : -(m * m) ≤ p * q ∧ p * q ≤ m * m := by
  have h1 : 0 ≤ (m - p) * (m + q) := Int.mul_nonneg (by omega) (by omega)
  have h2 : 0 ≤ (m + p) * (m - q) := Int.mul_nonneg (by omega) (by omega)
  have h3 : 0 ≤ (m - p) * (m - q) := Int.mul_nonneg (by omega) (by omega)
  have h4 : 0 ≤ (m + p) * (m + q) := Int.mul_nonneg (by omega) (by omega)
  have e1 : (m - p) * (m + q) = m * m + m * q - p * m - p * q := by rw [Int.sub_mul, Int.mul_add, Int.mul_add]; omega
  have e2 : (m + p) * (m - q) = m * m - m * q + p * m - p * q := by rw [Int.add_mul, Int.mul_sub, Int.mul_sub]; omega
  have e3 : (m - p) * (m - q) = m * m - m * q - p * m + p * q := by rw [Int.sub_mul, Int.mul_sub, Int.mul_sub]; omega
  have e4 : (m + p) * (m + q) = m * m + m * q + p * m + p * q := by rw [Int.add_mul, Int.mul_add, Int.mul_add]; omega
  omega
def lim (a : Int) : Prop := -10000000 ≤ a ∧ a ≤ 10000000
theorem lim_prod {p q : Int} (hp : lim p) (hq : lim q) : -100000000000000 ≤ p * q ∧ p * q ≤ 100000000000000 := prod_le p q 10000000 hp hq
theorem mulA_in {a b c d : Int} (ha : lim a) (hb : lim b) (hc : lim c) (hd : lim d) : mulA a b c d = a * c + b * d := by
  have h1 := lim_prod ha hc
  have h2 := lim_prod hb hd
  unfold mulA
  rw [wrap_in (a * c) (by omega), wrap_in (b * d) (by omega), wrap_in (a * c + b * d) (by omega)]
theorem mulB_in {a b c d : Int} (ha : lim a) (hb : lim b) (hc : lim c) (hd : lim d) : mulB a b c d = a * d + b * c + b * d := by
  have h1 := lim_prod ha hd
  have h2 := lim_prod hb hc
  have h3 := lim_prod hb hd
  unfold mulB
  rw [wrap_in (a * d) (by omega), wrap_in (b * c) (by omega), wrap_in (b * d) (by omega), wrap_in (a * d + b * c) (by omega), wrap_in (a * d + b * c + b * d) (by omega)]
theorem normI_in {a b : Int} (ha : lim a) (hb : lim b) : normI a b = a * a + a * b - b * b := by
  have h1 := lim_prod ha ha
  have h2 := lim_prod ha hb
  have h3 := lim_prod hb hb
  unfold normI
  rw [wrap_in (a * a) (by omega), wrap_in (a * b) (by omega), wrap_in (b * b) (by omega), wrap_in (a * a + a * b) (by omega), wrap_in (a * a + a * b - b * b) (by omega)]
theorem norm_zero {a b : Int} (h : a * a + a * b - b * b = 0) : a = 0 ∧ b = 0 := by
  have e : (2 * a + b) * (2 * a + b) = 5 * (b * b) := by
    have e1 : (2 * a + b) * (2 * a + b) = 4 * (a * a) + 4 * (a * b) + b * b := by
      rw [Int.add_mul, Int.mul_add, Int.mul_add, Int.mul_assoc 2 a (2 * a), Int.mul_left_comm a 2 a, Int.mul_assoc 2 a b, Int.mul_left_comm b 2 a, Int.mul_comm b a]; omega
    omega
  obtain ⟨hb, hp⟩ := irr _ _ e
  omega
theorem normI_zero {a b : Int} (ha : lim a) (hb : lim b) : (normI a b == 0) = (decide (a = 0) && decide (b = 0)) := by
  rw [normI_in ha hb, Bool.eq_iff_iff]
  simp only [beq_iff_eq, Bool.and_eq_true, decide_eq_true_eq]
  exact ⟨norm_zero, fun ⟨h1, h2⟩ => by subst h1 h2; rfl⟩
theorem normI_lim {a b : Int} (ha : lim a) (hb : lim b) : -300000000000000 ≤ normI a b ∧ normI a b ≤ 300000000000000 := by
  have h1 := lim_prod ha ha
  have h2 := lim_prod ha hb
  have h3 := lim_prod hb hb
  rw [normI_in ha hb]; omega
theorem mulA_lim {a b c d : Int} (ha : lim a) (hb : lim b) (hc : lim c) (hd : lim d) : -300000000000000 ≤ mulA a b c d ∧ mulA a b c d ≤ 300000000000000 := by
  have h1 := lim_prod ha hc
  have h2 := lim_prod hb hd
  rw [mulA_in ha hb hc hd]; omega
theorem mulB_lim {a b c d : Int} (ha : lim a) (hb : lim b) (hc : lim c) (hd : lim d) : -300000000000000 ≤ mulB a b c d ∧ mulB a b c d ≤ 300000000000000 := by
  have h1 := lim_prod ha hd
  have h2 := lim_prod hb hc
  have h3 := lim_prod hb hd
  rw [mulB_in ha hb hc hd]; omega

/-! ### The walks -/
theorem lim_of {a : Int} (h : -1000000 ≤ a ∧ a ≤ 1000000) : lim a := ⟨by omega, by omega⟩
def dvA (a b c d : Int) : Int := mulA a b (c + d) (-d)
def dvB (a b c d : Int) : Int := mulB a b (c + d) (-d)
def quA (a b c d : Int) : Int := IntKind.i64.wrap ((dvA a b c d).tdiv (normI c d))
def quB (a b c d : Int) : Int := IntKind.i64.wrap ((dvB a b c d).tdiv (normI c d))
def dvK (a b c d : Int) : Bool := okB a b && (okB c d && (!(normI c d == 0) && (!((dvA a b c d).tmod (normI c d) != 0) && (!((dvB a b c d).tmod (normI c d) != 0) && okB (quA a b c d) (quB a b c d)))))
theorem times_dv (a b c d : Int) (w : World) :
    Calls Tryd.prog 79 #[.agg #[.int .i64 (a), .int .i64 (b)], .agg #[.int .i64 (c + d), .int .i64 (-d)]] w fun e w' => e = .returned (.agg #[.int .i64 (dvA a b c d), .int .i64 (dvB a b c d)]) ∧ Below w.heap.size w w' := times_any _ _ _ _ _
theorem dv_lim {a b c d : Int} (h1 : okB a b = true) (h2 : okB c d = true) : ((-300000000000000 ≤ dvA a b c d ∧ dvA a b c d ≤ 300000000000000) ∧ (-300000000000000 ≤ dvB a b c d ∧ dvB a b c d ≤ 300000000000000)) ∧ (-300000000000000 ≤ normI c d ∧ normI c d ≤ 300000000000000) := by
  obtain ⟨ha, hb⟩ := okB_true h1
  obtain ⟨hc, hd⟩ := okB_true h2
  have hcd : lim (c + d) := ⟨by omega, by omega⟩
  have hnd : lim (-d) := ⟨by omega, by omega⟩
  exact ⟨⟨mulA_lim (lim_of ha) (lim_of hb) hcd hnd, mulB_lim (lim_of ha) (lim_of hb) hcd hnd⟩, normI_lim (lim_of hc) (lim_of hd)⟩
theorem times_dz (a b d : Int) (w : World) :
    Calls Tryd.prog 79 #[.agg #[.int .i64 (a), .int .i64 (b)], .agg #[.int .i64 (d), .int .i64 (-d)]] w fun e w' => e = .returned (.agg #[.int .i64 (dvA a b 0 d), .int .i64 (dvB a b 0 d)]) ∧ Below w.heap.size w w' := by
  have := times_dv a b 0 d w
  rwa [Int.zero_add] at this
theorem mate_iz (b : Int) (w : World) (hb : -50000000 ≤ b ∧ b ≤ 50000000) :
    Calls Tryd.prog 80 #[.agg #[.int .i64 (0), .int .i64 (b)]] w fun e w' => e = .returned (.agg #[.int .i64 (b), .int .i64 (-b)]) ∧ Below w.heap.size w w' := by
  have := mate_in 0 b w (by omega) hb
  rwa [Int.zero_add] at this
theorem dvK_no {a b c d : Int} (h : okB a b = false ∨ okB c d = false) : dvK a b c d = false := by
  unfold dvK; rcases h with h | h <;> rw [h] <;> simp
theorem dvK_zero {a b c d : Int} (h : (normI c d == 0) = true) : dvK a b c d = false := by
  unfold dvK; rw [h]; simp
theorem GV_false (a b : Int) : (.tuple #[.agg #[.int .i64 (gz (false) (a)), .int .i64 (gz (false) (b))], .bool (false)] : Value) = .tuple #[.agg #[.int .i64 (gz (false) (0)), .int .i64 (gz (false) (0))], .bool (false)] := rfl
end Go.Proofs.YtilbhingfnjppaaDoor

namespace Go.Proofs.YtilbhingfnjppaaDoor
open Go.RowKit
theorem sq_lt {x y : Int} (hy : 0 < y) (h : x * x < y * y) : -y < x ∧ x < y := by
  constructor
  · by_cases hx : -y < x
    · exact hx
    · exfalso
      have : y * y ≤ x * x := by
        have h1 : y ≤ -x := by omega
        have := Int.mul_le_mul h1 h1 (by omega) (by omega)
        rw [Int.neg_mul_neg] at this; exact this
      omega
  · by_cases hx : x < y
    · exact hx
    · exfalso
      have h1 : y ≤ x := by omega
      have := Int.mul_le_mul h1 h1 (by omega) (by omega)
      omega
/-- r + s root 5 is positive. -/
def pos (r s : Int) : Prop := (5 * (s * s) < r * r ∧ 0 < r) ∨ (r * r < 5 * (s * s) ∧ 0 < s)
theorem lt_of_sq {x y : Int} (hy : 0 < y) (h : x * x < y * y) : 0 < y + x := by have := sq_lt hy h; omega
theorem sqnn (x : Int) : 0 ≤ x * x := by
  rcases Int.le_total 0 x with h | h
  · exact Int.mul_nonneg h h
  · have := Int.mul_nonneg (show 0 ≤ -x by omega) (show 0 ≤ -x by omega); rw [Int.neg_mul_neg] at this; exact this
theorem mul_lt {a b c d : Int} (ha : 0 ≤ a) (hc : 0 ≤ c) (h1 : a < b) (h2 : c < d) : a * c < b * d := by
  have e1 : a * c ≤ a * d := Int.mul_le_mul_of_nonneg_left (by omega) ha
  have e2 : a * d < b * d := Int.mul_lt_mul_of_pos_right h1 (by omega)
  omega
theorem pos_mul {r s p q : Int} (h1 : pos r s) (h2 : pos p q) : pos (r * p + 5 * (s * q)) (r * q + s * p) := by
  have hN : (r * p + 5 * (s * q)) * (r * p + 5 * (s * q)) - 5 * ((r * q + s * p) * (r * q + s * p)) = (r * r - 5 * (s * s)) * (p * p - 5 * (q * q)) := by grind
  have hr := sqnn r
  have hs := sqnn s
  have hp := sqnn p
  have hq := sqnn q
  rcases h1 with ⟨a1, a2⟩ | ⟨a1, a2⟩ <;> rcases h2 with ⟨b1, b2⟩ | ⟨b1, b2⟩
  · left
    have hm := Int.mul_pos (show 0 < r * r - 5 * (s * s) by omega) (show 0 < p * p - 5 * (q * q) by omega)
    refine ⟨by omega, lt_of_sq (Int.mul_pos a2 b2) ?_⟩
    have := mul_lt (by omega) (by omega) a1 b1
    grind
  · right
    have hm := Int.mul_pos (show 0 < r * r - 5 * (s * s) by omega) (show 0 < 5 * (q * q) - p * p by omega)
    have hm2 : (r * r - 5 * (s * s)) * (p * p - 5 * (q * q)) = -((r * r - 5 * (s * s)) * (5 * (q * q) - p * p)) := by grind
    refine ⟨by omega, lt_of_sq (Int.mul_pos a2 b2) ?_⟩
    have := mul_lt (by omega) (by omega) a1 b1
    grind
  · right
    have hm := Int.mul_pos (show 0 < 5 * (s * s) - r * r by omega) (show 0 < p * p - 5 * (q * q) by omega)
    have hm2 : (r * r - 5 * (s * s)) * (p * p - 5 * (q * q)) = -((5 * (s * s) - r * r) * (p * p - 5 * (q * q))) := by grind
    refine ⟨by omega, ?_⟩
    rw [Int.add_comm]
    refine lt_of_sq (Int.mul_pos a2 b2) ?_
    have := mul_lt (by omega) (by omega) a1 b1
    grind
  · left
    have hm := Int.mul_pos (show 0 < 5 * (s * s) - r * r by omega) (show 0 < 5 * (q * q) - p * p by omega)
    have hm2 : (r * r - 5 * (s * s)) * (p * p - 5 * (q * q)) = ((5 * (s * s) - r * r) * (5 * (q * q) - p * p)) := by grind
    refine ⟨by omega, ?_⟩
    rw [Int.add_comm]
    refine lt_of_sq (Int.mul_pos (by omega) (Int.mul_pos a2 b2)) ?_
    have := mul_lt (by omega) (by omega) a1 b1
    grind

theorem pos_not {r s : Int} (h1 : pos r s) (h2 : pos (-r) (-s)) : False := by
  unfold pos at *
  rw [Int.neg_mul_neg, Int.neg_mul_neg] at h2
  omega
theorem pos_zero : ¬ pos 0 0 := by unfold pos; omega

theorem sgn_pos {a b : Int} : sgn a b = 1 ↔ pos (2 * a + b) b := by
  have hi := sgn_irr a b
  rw [five_sq] at hi
  unfold sgn pos
  rw [five_sq]
  obtain ⟨r, hr⟩ : ∃ r, 2 * a + b = r := ⟨_, rfl⟩
  rw [hr] at hi ⊢
  by_cases h0 : r = 0 ∧ b = 0
  · rw [if_pos h0, h0.1, h0.2]; simp
  · rw [if_neg h0]
    by_cases hr : 0 < r
    · have hrr := Int.mul_pos hr hr
      by_cases hs : 0 ≤ b
      · rw [if_pos (by omega)]
        simp only [true_iff]
        by_cases hq : 5 * (b * b) < r * r
        · left; exact ⟨hq, hr⟩
        · right
          refine ⟨?_, ?_⟩
          · have := hi; omega
          · by_cases hb : b = 0
            · subst hb; exfalso; omega
            · omega
      · by_cases hq : 5 * (b * b) < r * r
        · rw [if_pos (by omega)]; simp; left; exact ⟨hq, hr⟩
        · rw [if_neg (by omega)]; simp; omega
    · by_cases hs : 0 < b
      · by_cases hq : r * r ≤ 5 * (b * b)
        · rw [if_pos (by omega)]; simp; right; have := hi; omega
        · rw [if_neg]
          · simp; omega
          · intro h; have hb2 := Int.mul_pos hs hs; rcases h with h | h | h
            · obtain rfl : r = 0 := by omega
              omega
            · omega
            · omega
      · rw [if_neg (by omega)]; simp; omega
theorem sgn_zero {a b : Int} : sgn a b = 0 ↔ a = 0 ∧ b = 0 := by
  unfold sgn
  by_cases h0 : 2 * a + b = 0 ∧ b = 0
  · rw [if_pos h0]; simp; omega
  · rw [if_neg h0]; split <;> simp <;> omega
theorem sgn_opp (a b : Int) : sgn (-a) (-b) = -sgn a b := by
  have hz := @sgn_zero a b
  have hz' := @sgn_zero (-a) (-b)
  have hp := @sgn_pos a b
  have hp' := @sgn_pos (-a) (-b)
  rw [show 2 * -a + -b = -(2 * a + b) by omega] at hp'
  have hn := @pos_not (2 * a + b) b
  have h1 := sgn_range a b
  have h2 := sgn_range (-a) (-b)
  have hi := sgn_irr a b
  rw [five_sq] at hi
  have hall : pos (2 * a + b) b ∨ pos (-(2 * a + b)) (-b) ∨ (a = 0 ∧ b = 0) := by
    unfold pos
    rw [Int.neg_mul_neg, Int.neg_mul_neg]
    obtain ⟨r, hr⟩ : ∃ r, 2 * a + b = r := ⟨_, rfl⟩
    rw [hr] at hi ⊢
    rcases Int.lt_trichotomy (5 * (b * b)) (r * r) with h | h | h
    · by_cases hq : r = 0
      · subst hq; have := sqnn b; omega
      · omega
    · have := hi h.symm; omega
    · by_cases hq : b = 0
      · subst hq; have := sqnn r; omega
      · omega
  grind
/-- The sign of a product is the product of the signs. -/
theorem sgn_mul (a b c d : Int) : sgn (a * c + b * d) (a * d + b * c + b * d) = sgn a b * sgn c d := by
  have key : ∀ a b c d : Int, sgn a b = 1 → sgn c d = 1 → sgn (a * c + b * d) (a * d + b * c + b * d) = 1 := by
    intro a b c d h1 h2
    have h := pos_mul (sgn_pos.1 h1) (sgn_pos.1 h2)
    refine sgn_pos.2 ?_
    have e1 : (2 * a + b) * (2 * c + d) + 5 * (b * d) = 2 * (2 * (a * c + b * d) + (a * d + b * c + b * d)) := by grind
    have e2 : (2 * a + b) * d + b * (2 * c + d) = 2 * (a * d + b * c + b * d) := by grind
    rw [e1, e2] at h
    have q1 : ∀ R S : Int, pos (2 * R) (2 * S) → pos R S := by
      intro R S h
      unfold pos at *
      rw [show 2 * R * (2 * R) = 4 * (R * R) by grind, show 2 * S * (2 * S) = 4 * (S * S) by grind] at h
      omega
    exact q1 _ _ h
  rcases sgn_range a b with h | h | h
  · obtain ⟨rfl, rfl⟩ := sgn_zero.1 h
    simp [h]
  · rcases sgn_range c d with k | k | k
    · obtain ⟨rfl, rfl⟩ := sgn_zero.1 k
      simp [k]
    · rw [h, k]; exact key _ _ _ _ h k
    · have := key a b (-c) (-d) h (by rw [sgn_opp, k]; rfl)
      have e := sgn_opp (a * c + b * d) (a * d + b * c + b * d)
      rw [show -(a * c + b * d) = a * -c + b * -d by grind, show -(a * d + b * c + b * d) = a * -d + b * -c + b * -d by grind, this] at e
      rw [h, k]; omega
  · rcases sgn_range c d with k | k | k
    · obtain ⟨rfl, rfl⟩ := sgn_zero.1 k
      simp [k]
    · have := key (-a) (-b) c d (by rw [sgn_opp, h]; rfl) k
      have e := sgn_opp (a * c + b * d) (a * d + b * c + b * d)
      rw [show -(a * c + b * d) = -a * c + -b * d by grind, show -(a * d + b * c + b * d) = -a * d + -b * c + -b * d by grind, this] at e
      rw [h, k]; omega
    · have := key (-a) (-b) (-c) (-d) (by rw [sgn_opp, h]; rfl) (by rw [sgn_opp, k]; rfl)
      rw [show -a * -c + -b * -d = a * c + b * d by grind, show -a * -d + -b * -c + -b * -d = a * d + b * c + b * d by grind] at this
      rw [this, h, k]; rfl

/-- Numbers that are drawn: from -20 to 20. -/
def dr (a : Int) : Prop := -20 ≤ a ∧ a ≤ 20
theorem dr_prod {p q : Int} (hp : dr p) (hq : dr q) : -400 ≤ p * q ∧ p * q ≤ 400 := prod_le p q 20 hp hq
theorem quo1 (a b c d : Int) : (a * c + b * d) * (c + d) + (a * d + b * c + b * d) * (-d) = a * (c * c + c * d - d * d) := by grind
theorem quo2 (a b c d : Int) : (a * c + b * d) * (-d) + (a * d + b * c + b * d) * (c + d) + (a * d + b * c + b * d) * (-d) = b * (c * c + c * d - d * d) := by grind
theorem norm_mul (a b c d : Int) : (a*c+b*d)*(a*c+b*d) + (a*c+b*d)*(a*d+b*c+b*d) - (a*d+b*c+b*d)*(a*d+b*c+b*d) = (a*a+a*b-b*b)*(c*c+c*d-d*d) := by grind
theorem pow_fin : ∀ k : Fin 25, mulA (pwN ((k.val : Int) - 12)).1 (pwN ((k.val : Int) - 12)).2 (pwN (-((k.val : Int) - 12))).1 (pwN (-((k.val : Int) - 12))).2 = 1 ∧ mulB (pwN ((k.val : Int) - 12)).1 (pwN ((k.val : Int) - 12)).2 (pwN (-((k.val : Int) - 12))).1 (pwN (-((k.val : Int) - 12))).2 = 0 ∧ (normI (pwN ((k.val : Int) - 12)).1 (pwN ((k.val : Int) - 12)).2 = 1 ∨ normI (pwN ((k.val : Int) - 12)).1 (pwN ((k.val : Int) - 12)).2 = -1) ∧ sgn (pwN ((k.val : Int) - 12)).1 (pwN ((k.val : Int) - 12)).2 = 1 := by decide +kernel
theorem pow_all (n : Int) (h : -12 ≤ n ∧ n ≤ 12) : mulA (pwN n).1 (pwN n).2 (pwN (-n)).1 (pwN (-n)).2 = 1 ∧ mulB (pwN n).1 (pwN n).2 (pwN (-n)).1 (pwN (-n)).2 = 0 ∧ (normI (pwN n).1 (pwN n).2 = 1 ∨ normI (pwN n).1 (pwN n).2 = -1) ∧ sgn (pwN n).1 (pwN n).2 = 1 := by
  have := pow_fin ⟨(n + 12).toNat, by omega⟩
  simp only at this
  rw [show (((n + 12).toNat : Nat) : Int) - 12 = n by omega] at this
  exact this
end Go.Proofs.YtilbhingfnjppaaDoor
