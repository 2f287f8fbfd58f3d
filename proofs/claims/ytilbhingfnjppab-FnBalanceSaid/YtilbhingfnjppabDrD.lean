/- The laws' draws: words over a substitution's letters. -/
import Derived.Test.YtilbhingfnjppabMDrb
import Derived.Deep.RegionHeld3
set_option linter.unusedSimpArgs false
set_option linter.unusedVariables false
namespace Go.Proofs.Ytilbhingfnjppab
open Go.RowKit
theorem min6 {v : Int} (h : 0 ≤ v) : 0 ≤ (if v < 6 then v else 6) ∧ (if v < 6 then v else 6) ≤ 6 := by split <;> omega
set_option maxRecDepth 20000 in
set_option maxHeartbeats 2000000 in
/-- A word over a substitution's letters. -/
theorem MakeOver_any (B : Nat) (x : Option Addr) (n cap m : Nat) (hm : m ≤ 1000) (y : Option Addr) (k cy : Nat) (hk1 : 1 ≤ k) (hk2 : k ≤ 26) (w : World) (hB : B ≤ w.heap.size) (hr : RB B w x n) :
    Calls Try.prog 8 #[.slice x n cap, .int .i64 m, .agg #[.slice y k cy], .int .i64 6] w fun e w' => ∃ l : List UInt8, e = .returned (.string ⟨l.toArray⟩) ∧ l.length ≤ 6 ∧ (∀ b ∈ l, 97 ≤ b.toNat ∧ b.toNat < 97 + k) ∧ Below w.heap.size w w' := by
  have hbW : Below w.heap.size w (w.alloc (.cells #[.slice y k cy] 25)) := (Below.refl _ w).alloc (Nat.le_refl _) _
  have hrW : RB w.heap.size (w.alloc (.cells #[.slice y k cy] 25)) x n := rB_below (rB_mono hr hB) hbW
  have hC1 := l31New_any w.heap.size x n cap m hm _ (by simp) hrW
  clear hr
  go_enter Try.func8, Try.ntmps8
  go_wp2_with (first | (go_at_call 59; refine hC1.mono ?_; rintro e w1 ⟨g, rfl, hg, hc1, hb1⟩; have hz1 := hb1.size; (simp at hg)))
  have hk1' := hb1.cell (p := ⟨w.heap.size, 0, none⟩) (by simp)
  simp only [World.size_alloc] at hz1
  have hs1 : w.heap.size < w1.heap.size := by omega
  have k1 : w1.cell? ⟨w.heap.size, 0, none⟩ = some (.slice y k cy) := hk1'.trans (by simp [go_sem])
  have hr1 := rB_below (rB_mono hrW (show w.heap.size ≤ w.heap.size + 1 by omega)) (hb1.mono (by simp))
  clear hk1'
  go_region_held3 (fun wx => wx.cell? ⟨w.heap.size, 0, none⟩ = some (.slice y k cy)) (first | assumption | go_keep) (first | (go_at_call 61; (with_reducible refine (l01Below_any (w.heap.size + 1) g x n cap 8 (by omega) (by omega) w1.drew hg (rB_drew hr1) (cur_drew hc1)).mono ?_); rintro e w6 ⟨v, rfl, ⟨v0, v1⟩, hc6, hg6⟩; have hz6 := size_drewI hg6.size; have k6 : w6.cell? ⟨w.heap.size, 0, none⟩ = some (.slice y k cy) := (hg6.cell_far ⟨w.heap.size, 0, none⟩ hs1 (by simp; omega)).trans (cell_drewI k1); have hr6 := rB_grown (rB_drew hr1) hg6 (by show _ ≤ w1.heap.size; omega) hg) | (go_at_call 60; have hu6 := min6 v0; generalize (if v < 6 then v else 6) = u at hu6 ⊢; (with_reducible refine (l02Word_int (w.heap.size + 1) g x n cap u hu6.1 (by have := hu6.2; omega) (k : Int) (by omega) (by omega) w6 hg hr6 hc6).mono ?_); rintro e w7 ⟨L, rfl, hL, hLb, hc7, hg7⟩; have k7 : w7.cell? ⟨w.heap.size, 0, none⟩ = some (.slice y k cy) := (hg7.cell_far ⟨w.heap.size, 0, none⟩ (by show w.heap.size < _; omega) (by simp; omega)).trans k6))
  all_goals
    go_wp2
    go_ret
    have hm6 := hu6.2
    refine ⟨L, rfl, by omega, fun b hb => by have := hLb b hb; omega, ?_⟩
    exact (hbW.trans (hb1.mono (by simp))).trans ((below_of_grown (B := w.heap.size + 1) (grown_gg (grown_drewF (World.grownBy.refl _ _) hg6) hg7) (by omega) hg).mono (by omega))
end Go.Proofs.Ytilbhingfnjppab
