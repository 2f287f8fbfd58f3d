/- The walks of grown chains, and the law on them. -/
import Derived.Test.YtieibopegmoanaaGoldW
set_option linter.unusedSimpArgs false
set_option linter.unusedVariables false
namespace Go.Proofs.Ytieibopegmoanaa
open Go.RowKit
theorem csameG {w : World} {b o : Nat} {u : Value} : (w.setCell ⟨b, o, none⟩ u).cell? ⟨b, o, none⟩ = (w.cell? ⟨b, o, none⟩).map (fun _ => u) := by
  cases h : w.cell? ⟨b, o, none⟩ with
  | some v => exact World.cell?_setCell_same w _ u h
  | none =>
    simp only [World.setCell, World.cell?, Array.getElem?_modify] at *
    simp
    cases hb : w.heap[b]? with
    | none => simp
    | some x =>
      rw [hb] at h
      cases x <;> simp_all
theorem ltKs {n p : Nat} {s : Nat} (h : n + p ≤ s) : (∀ b, b < n + p → b < s + 1) ∧ (∀ b, b < n + p → b < s + 1 + 1) ∧ (∀ b, b < n + p → b < s + 1 + 1 + 1) ∧ (∀ b, b < n + p → b < s + 1 + 1 + 1 + 1) ∧ (∀ b, b < n + p → b < s + 1 + 1 + 1 + 1 + 1) ∧ (∀ b, b < n + p → b < s + 1 + 1 + 1 + 1 + 1 + 1) ∧ (∀ b, b < n + p → b < s + 1 + 1 + 1 + 1 + 1 + 1 + 1) ∧ (∀ b, b < n + p → b < s + 1 + 1 + 1 + 1 + 1 + 1 + 1 + 1) := by
  refine ⟨?_, ?_, ?_, ?_, ?_, ?_, ?_, ?_⟩ <;> (intro b hb; omega)
def grA (a b : Int) : Int := mulA a b 1 (-1)
def grB (a b : Int) : Int := mulB a b 1 (-1)
def grK (a b c d : Int) : Bool := win a b c d && win (grA c d) (grB c d) (grA a b) (grB a b)
set_option maxHeartbeats 400000 in
theorem l14Mul_gr (a b : Int) (w : World) :
    Calls Try.prog 58 #[.agg #[.int .i64 (a), .int .i64 (b)], .agg #[.int .i64 (1), .int .i64 (-1)]] w fun e w' => e = .returned (.agg #[.int .i64 (grA a b), .int .i64 (grB a b)]) ∧ (((w.alloc (.cells #[.int .i64 (a), .int .i64 (b)] 39)).alloc (.cells #[.int .i64 (1), .int .i64 (-1)] 39)).alloc (.cells #[.int .i64 (grA (a) (b)), .int .i64 (grB (a) (b))] 39)) = w' := by
  have e1 : wrap64 (wrap64 (a * 1) + wrap64 (b * -1)) = grA a b := rfl
  have e2 : wrap64 (wrap64 (wrap64 (a * -1) + wrap64 (b * 1)) + wrap64 (b * -1)) = grB a b := rfl
  go_enter Try.func58, Try.ntmps58
  go_wp2
  refine bodyPost_ret (v := .agg #[.int .i64 (grA a b), .int .i64 (grB a b)]) (by simp [results, Try.results58, go_sem, grA, grB, mulA, mulB]) rfl ⟨rfl, by simp [grA, grB, mulA, mulB]⟩
set_option maxHeartbeats 400000 in
theorem times_gr (a b : Int) (w : World) :
    Calls Try.prog 59 #[.agg #[.int .i64 (a), .int .i64 (b)], .agg #[.int .i64 (1), .int .i64 (-1)]] w fun e w' => e = .returned (.agg #[.int .i64 (grA a b), .int .i64 (grB a b)]) ∧ (((w.alloc (.cells #[.int .i64 (a), .int .i64 (b)] 39)).alloc (.cells #[.int .i64 (1), .int .i64 (-1)] 39)).alloc (.cells #[.int .i64 (grA (a) (b)), .int .i64 (grB (a) (b))] 39)) = w' := by
  have e1 : wrap64 (wrap64 (a * 1) + wrap64 (b * -1)) = grA a b := rfl
  have e2 : wrap64 (wrap64 (wrap64 (a * -1) + wrap64 (b * 1)) + wrap64 (b * -1)) = grB a b := rfl
  go_enter Try.func59, Try.ntmps59
  go_wp2
  refine bodyPost_ret (v := .agg #[.int .i64 (grA a b), .int .i64 (grB a b)]) (by simp [results, Try.results59, go_sem, grA, grB, mulA, mulB]) rfl ⟨rfl, by simp [grA, grB, mulA, mulB]⟩
set_option maxHeartbeats 2000000 in
theorem specGrown_any (a b c d : Int) (w : World) :
    Calls Try.prog 19 #[.agg #[.int .i64 (a), .int .i64 (b)], .agg #[.int .i64 (c), .int .i64 (d)]] w fun e w' => e = .returned (.tuple #[.agg #[.int .i64 (gz (grK a b c d) (grA c d)), .int .i64 (gz (grK a b c d) (grB c d))], .agg #[.int .i64 (gz (grK a b c d) (grA a b)), .int .i64 (gz (grK a b c d) (grB a b))], .bool (grK a b c d)]) ∧ Below w.heap.size w w' := by
  cases h1 : win a b c d
  · go_enter Try.func19, Try.ntmps19
    go_wp2_with (go_at_call 57; refine (l15Ok_any _ _ _ _ _).mono ?_; rintro e w1 ⟨rfl, hb1⟩; have hz1 := hb1.size; (try simp at hz1); obtain ⟨hc1, hf1⟩ := bcellK (w := w) 4 hb1 (by ((try simp only [World.size_alloc, World.size_setCell, World.size_drew, size_drewN]); (try dsimp only); omega)); have hl1 := ltK (n := w.heap.size) (p := 4) (w1 := w1) (by omega); (try (have tk1 := trackAlloc hb1 (by ((try simp only [World.size_alloc, World.size_setCell, World.size_drew, size_drewN]); (try dsimp only); omega)); try simp only [World.size_alloc, World.size_drew] at tk1)); (try (have tk2 := trackAllocD hb1 (by ((try simp only [World.size_alloc, World.size_setCell, World.size_drew, size_drewN]); (try dsimp only); omega)); try simp only [World.size_alloc, World.size_drew] at tk2)); (try have tk3 := trackNext hb1 (by assumption) (by ((try simp only [World.size_alloc, World.size_setCell, World.size_drew, size_drewN]); (try dsimp only); omega))))
    (refine bodyPost_ret (v := .tuple #[.agg #[.int .i64 (gz (grK a b c d) (grA c d)), .int .i64 (gz (grK a b c d) (grB c d))], .agg #[.int .i64 (gz (grK a b c d) (grA a b)), .int .i64 (gz (grK a b c d) (grB a b))], .bool (grK a b c d)]) (by simp [results, Try.results19, go_sem, cset, gz, grK, csameG, *]) rfl ⟨by first | rfl | simp [*], ?_⟩; (repeat (first | with_reducible exact Below.refl _ _ | assumption | with_reducible refine Qdrew ?_ | with_reducible refine QdrewN ?_ | ((with_reducible refine Qset ?_ ?_); exact (by ((try simp only [World.size_alloc, World.size_setCell, World.size_drew, size_drewN]); (try dsimp only); omega))) | ((with_reducible refine Qalloc ?_ ?_); exact (by ((try simp only [World.size_alloc, World.size_setCell, World.size_drew, size_drewN]); (try dsimp only); omega))) | refine Qtrans (by assumption) (by ((try simp only [World.size_alloc, World.size_setCell, World.size_drew, size_drewN]); (try dsimp only); omega)) ?_)))
  · cases h2 : win (grA c d) (grB c d) (grA a b) (grB a b)
    all_goals
      go_enter Try.func19, Try.ntmps19
      go_wp2_with (first | ((go_at_call 57; refine (l15Ok_any _ _ _ _ _).mono ?_; rintro e w1 ⟨rfl, hb1⟩; have hz1 := hb1.size; (try simp at hz1); obtain ⟨hc1, hf1⟩ := bcellK (w := w) 4 hb1 (by ((try simp only [World.size_alloc, World.size_setCell, World.size_drew, size_drewN]); (try dsimp only); omega)); have hl1 := ltK (n := w.heap.size) (p := 4) (w1 := w1) (by omega); (try (have tk1 := trackAlloc hb1 (by ((try simp only [World.size_alloc, World.size_setCell, World.size_drew, size_drewN]); (try dsimp only); omega)); try simp only [World.size_alloc, World.size_drew] at tk1)); (try (have tk2 := trackAllocD hb1 (by ((try simp only [World.size_alloc, World.size_setCell, World.size_drew, size_drewN]); (try dsimp only); omega)); try simp only [World.size_alloc, World.size_drew] at tk2)); (try have tk3 := trackNext hb1 (by assumption) (by ((try simp only [World.size_alloc, World.size_setCell, World.size_drew, size_drewN]); (try dsimp only); omega)))); obtain ⟨hc2, hf2⟩ := bcell hb1; obtain ⟨hm1, hm2, hm3, hm4, hm5, hm6, hm7, hm8⟩ := ltKs (n := w.heap.size) (p := 4) (s := w1.heap.size) (by omega)) | (go_at_call 58; refine (l14Mul_gr _ _ _).mono ?_; rintro e w1 ⟨rfl, rfl⟩))
    · (refine bodyPost_ret (v := .tuple #[.agg #[.int .i64 (gz (grK a b c d) (grA c d)), .int .i64 (gz (grK a b c d) (grB c d))], .agg #[.int .i64 (gz (grK a b c d) (grA a b)), .int .i64 (gz (grK a b c d) (grB a b))], .bool (grK a b c d)]) (by simp [results, Try.results19, go_sem, cset, gz, grK, csameG, *]) rfl ⟨by first | rfl | simp [*], ?_⟩; (repeat (first | with_reducible exact Below.refl _ _ | assumption | with_reducible refine Qdrew ?_ | with_reducible refine QdrewN ?_ | ((with_reducible refine Qset ?_ ?_); exact (by ((try simp only [World.size_alloc, World.size_setCell, World.size_drew, size_drewN]); (try dsimp only); omega))) | ((with_reducible refine Qalloc ?_ ?_); exact (by ((try simp only [World.size_alloc, World.size_setCell, World.size_drew, size_drewN]); (try dsimp only); omega))) | refine Qtrans (by assumption) (by ((try simp only [World.size_alloc, World.size_setCell, World.size_drew, size_drewN]); (try dsimp only); omega)) ?_)))
    · go_region
      all_goals go_wp2
      all_goals (refine bodyPost_ret (v := .tuple #[.agg #[.int .i64 (gz (grK a b c d) (grA c d)), .int .i64 (gz (grK a b c d) (grB c d))], .agg #[.int .i64 (gz (grK a b c d) (grA a b)), .int .i64 (gz (grK a b c d) (grB a b))], .bool (grK a b c d)]) (by simp [results, Try.results19, go_sem, cset, gz, grK, csameG, *]) rfl ⟨by first | rfl | simp [*], ?_⟩; (repeat (first | with_reducible exact Below.refl _ _ | assumption | with_reducible refine Qdrew ?_ | with_reducible refine QdrewN ?_ | ((with_reducible refine Qset ?_ ?_); exact (by ((try simp only [World.size_alloc, World.size_setCell, World.size_drew, size_drewN]); (try dsimp only); omega))) | ((with_reducible refine Qalloc ?_ ?_); exact (by ((try simp only [World.size_alloc, World.size_setCell, World.size_drew, size_drewN]); (try dsimp only); omega))) | refine Qtrans (by assumption) (by ((try simp only [World.size_alloc, World.size_setCell, World.size_drew, size_drewN]); (try dsimp only); omega)) ?_)))
end Go.Proofs.Ytieibopegmoanaa
