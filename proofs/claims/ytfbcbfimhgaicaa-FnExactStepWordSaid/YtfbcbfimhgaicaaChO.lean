/- Chains: the law of the word of the steps. -/
import Derived.Test.YtfbcbfimhgaicaaChN
set_option linter.unusedSimpArgs false
set_option linter.unusedVariables false
namespace Go.Proofs.Ytfbcbfimhgaicaa
open Go.RowKit
set_option maxRecDepth 20000 in
set_option maxHeartbeats 4000000 in
theorem StepWord_law (a b c d n : Int) (hn : -9223372036854775808 ≤ n ∧ n ≤ 9223372036854775807) (w : World) :
    Calls Try.prog 13 #[.agg #[.int .i64 (a), .int .i64 (b)], .agg #[.int .i64 (c), .int .i64 (d)], .int .i64 n] w fun e w' => e = .returned (.bool true) ∧ Below w.heap.size w w' := by
  have hspec := fun (w : World) => specWord_any a b c d n w
  have himpl := fun (w : World) => implWord_any a b c d n w
  obtain ⟨L, hL⟩ : ∃ L, wordL a b c d n = L := ⟨_, rfl⟩
  rw [hL] at hspec himpl
  clear hL
  go_enter Try.func13, Try.ntmps13
  go_upto_region 1 with fail
  go_cut [7] from 9 to 14 (fun s7 w3 => s7 = .string L ∧ Below (w.heap.size + 2) ((w.alloc (.cells #[.int .i64 a, .int .i64 b] 55)).alloc (.cells #[.int .i64 c, .int .i64 d] 55)) w3)
  case first =>
    go_region_held3 (fun wx => (∀ bk ofs, bk < w.heap.size + 2 → wx.cell? ⟨bk, ofs, none⟩ = (((w.alloc (.cells #[.int .i64 a, .int .i64 b] 55)).alloc (.cells #[.int .i64 c, .int .i64 d] 55))).cell? ⟨bk, ofs, none⟩) ∧ Below (w.heap.size + 2) (((w.alloc (.cells #[.int .i64 a, .int .i64 b] 55)).alloc (.cells #[.int .i64 c, .int .i64 d] 55))) wx) ((refine stays ?_; ((repeat (first | with_reducible exact Below.refl _ _ | assumption | with_reducible refine Qdrew ?_ | with_reducible refine QdrewN ?_ | ((with_reducible refine Qset ?_ ?_); exact (by ((try simp only [World.size_alloc, World.size_setCell, World.size_drew, size_drewN]); (try dsimp only); omega))) | ((with_reducible refine Qalloc ?_ ?_); exact (by ((try simp only [World.size_alloc, World.size_setCell, World.size_drew, size_drewN]); (try dsimp only); omega))) | refine Qtrans (by assumption) (by ((try simp only [World.size_alloc, World.size_setCell, World.size_drew, size_drewN]); (try dsimp only); omega)) ?_)) <;> (go_split_ands; assumption)))) (first | (go_at_call 42; refine (toGold_any _ _ _).mono ?_; rintro e w1 ⟨rfl, hb1⟩; have hz1 := hb1.size; (try simp at hz1); obtain ⟨hc1, hf1⟩ := bcellK (w := w) 2 hb1 (by ((try simp only [World.size_alloc, World.size_setCell, World.size_drew, size_drewN]); (try dsimp only); omega)); have hl1 := ltK (n := w.heap.size) (p := 2) (w1 := w1) (by omega); (try (have tk1 := trackAlloc hb1 (by ((try simp only [World.size_alloc, World.size_setCell, World.size_drew, size_drewN]); (try dsimp only); omega)); try simp only [World.size_alloc, World.size_drew] at tk1)); (try (have tk2 := trackAllocD hb1 (by ((try simp only [World.size_alloc, World.size_setCell, World.size_drew, size_drewN]); (try dsimp only); omega)); try simp only [World.size_alloc, World.size_drew] at tk2)); (try have tk3 := trackNext hb1 (by assumption) (by ((try simp only [World.size_alloc, World.size_setCell, World.size_drew, size_drewN]); (try dsimp only); omega)))) | (go_at_call 49; refine (hspec _).mono ?_; rintro e w1 ⟨rfl, hb1⟩; have hz1 := hb1.size; (try simp at hz1); obtain ⟨hc1, hf1⟩ := bcellK (w := w) 2 hb1 (by ((try simp only [World.size_alloc, World.size_setCell, World.size_drew, size_drewN]); (try dsimp only); omega)); have hl1 := ltK (n := w.heap.size) (p := 2) (w1 := w1) (by omega); (try (have tk1 := trackAlloc hb1 (by ((try simp only [World.size_alloc, World.size_setCell, World.size_drew, size_drewN]); (try dsimp only); omega)); try simp only [World.size_alloc, World.size_drew] at tk1)); (try (have tk2 := trackAllocD hb1 (by ((try simp only [World.size_alloc, World.size_setCell, World.size_drew, size_drewN]); (try dsimp only); omega)); try simp only [World.size_alloc, World.size_drew] at tk2)); (try have tk3 := trackNext hb1 (by assumption) (by ((try simp only [World.size_alloc, World.size_setCell, World.size_drew, size_drewN]); (try dsimp only); omega)))))
    all_goals (go_wp2_with fail; go_meet; exact ⟨rfl, by (repeat (first | with_reducible exact Below.refl _ _ | assumption | with_reducible refine Qdrew ?_ | with_reducible refine QdrewN ?_ | ((with_reducible refine Qset ?_ ?_); exact (by ((try simp only [World.size_alloc, World.size_setCell, World.size_drew, size_drewN]); (try dsimp only); omega))) | ((with_reducible refine Qalloc ?_ ?_); exact (by ((try simp only [World.size_alloc, World.size_setCell, World.size_drew, size_drewN]); (try dsimp only); omega))) | refine Qtrans (by assumption) (by ((try simp only [World.size_alloc, World.size_setCell, World.size_drew, size_drewN]); (try dsimp only); omega)) ?_))⟩)
  case rest =>
    rename World => w3
    obtain ⟨rfl, hb3⟩ := hcut
    have z3 := hb3.size
    simp only [World.size_alloc] at z3
    have k0 : w3.cell? ⟨w.heap.size, 0, none⟩ = some (.int .i64 a) := (hb3.cell (by simp)).trans (by simp [go_sem])
    have k1 : w3.cell? ⟨w.heap.size, 1, none⟩ = some (.int .i64 b) := (hb3.cell (by simp)).trans (by simp [go_sem])
    have k2 : w3.cell? ⟨w.heap.size + 1, 0, none⟩ = some (.int .i64 c) := (hb3.cell (by simp)).trans (by simp [go_sem])
    have k3 : w3.cell? ⟨w.heap.size + 1, 1, none⟩ = some (.int .i64 d) := (hb3.cell (by simp)).trans (by simp [go_sem])
    have hbw0 : w.heap.size < w3.heap.size := by omega
    have hbw1 : w.heap.size + 1 < w3.heap.size := by omega
    go_upto_region 2 with fail
    go_cut [8] from 15 to 20 (fun s8 w5 => s8 = .string L ∧ Below w3.heap.size w3 w5)
    case first =>
      go_region_held3 (fun wx => (∀ bk ofs, bk < w3.heap.size → wx.cell? ⟨bk, ofs, none⟩ = (w3).cell? ⟨bk, ofs, none⟩) ∧ Below (w3.heap.size) (w3) wx) ((refine stays ?_; ((repeat (first | with_reducible exact Below.refl _ _ | assumption | with_reducible refine Qdrew ?_ | with_reducible refine QdrewN ?_ | ((with_reducible refine Qset ?_ ?_); exact (by ((try simp only [World.size_alloc, World.size_setCell, World.size_drew, size_drewN]); (try dsimp only); omega))) | ((with_reducible refine Qalloc ?_ ?_); exact (by ((try simp only [World.size_alloc, World.size_setCell, World.size_drew, size_drewN]); (try dsimp only); omega))) | refine Qtrans (by assumption) (by ((try simp only [World.size_alloc, World.size_setCell, World.size_drew, size_drewN]); (try dsimp only); omega)) ?_)) <;> (go_split_ands; assumption)))) (first | (go_at_call 42; with_reducible refine (toGold_any _ _ _).mono ?_; rintro e w6 ⟨rfl, hb6⟩; obtain ⟨hc6, hf6⟩ := bcell hb6; have hl6 := ltW hb6; have hz6 := hb6.size; (try simp only [World.size_drew] at hz6)) | (go_at_call 50; with_reducible refine (himpl _).mono ?_; rintro e w6 ⟨rfl, hb6⟩; obtain ⟨hc6, hf6⟩ := bcell hb6; have hl6 := ltW hb6; have hz6 := hb6.size; (try simp only [World.size_drew] at hz6)))
      all_goals (go_wp2_with fail; go_meet; exact ⟨rfl, by (repeat (first | with_reducible exact Below.refl _ _ | assumption | with_reducible refine Qdrew ?_ | with_reducible refine QdrewN ?_ | ((with_reducible refine Qset ?_ ?_); exact (by ((try simp only [World.size_alloc, World.size_setCell, World.size_drew, size_drewN]); (try dsimp only); omega))) | ((with_reducible refine Qalloc ?_ ?_); exact (by ((try simp only [World.size_alloc, World.size_setCell, World.size_drew, size_drewN]); (try dsimp only); omega))) | refine Qtrans (by assumption) (by ((try simp only [World.size_alloc, World.size_setCell, World.size_drew, size_drewN]); (try dsimp only); omega)) ?_))⟩)
    case rest =>
      rename World => w5
      obtain ⟨rfl, hb5⟩ := hcut
      have z5 := hb5.size
      go_wp2
      go_ret
      exact ⟨rfl, Qtrans hb5 (by omega) (Qtrans hb3 (by omega) (((Below.refl _ w).alloc (Nat.le_refl _) _).alloc (by simp) _))⟩
end Go.Proofs.Ytfbcbfimhgaicaa
