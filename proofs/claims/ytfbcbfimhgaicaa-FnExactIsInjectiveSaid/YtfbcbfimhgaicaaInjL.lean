/- Injective substitutions: the law. -/
import Derived.Test.YtfbcbfimhgaicaaInjS
import Derived.Deep.RegionHeld3
set_option linter.unusedSimpArgs false
set_option linter.unusedVariables false
namespace Go.Proofs.Ytfbcbfimhgaicaa
open Go.RowKit
set_option maxHeartbeats 4000000 in
theorem IsInjective_law (w : World) (x : Option Addr) (n cap : Nat) (zs : List ByteArray) (h : IsStrs w x n cap zs) (m : Int) (hm : -9223372036854775808 ≤ m ∧ m ≤ 9223372036854775807) :
    Calls Try.prog 6 #[.agg #[.slice x n cap], .int .i64 m] w fun e w' => e = .returned (.bool true) ∧ Below w.heap.size w w' := by
  clear hm
  have hz := h.2.2.2.1
  have hb0 : Below w.heap.size w (w.alloc (.cells #[.slice x n cap] 36)) := (Below.refl _ w).alloc (Nat.le_refl _) _
  have h0 := isStrs_below h (Nat.le_refl _) hb0
  go_enter Try.func6, Try.ntmps6
  go_wp2_with (go_at_call 24; refine (szSubst_any _ _ _ _ _ _ h0 (by omega)).mono ?_; rintro e w1 ⟨r, rfl, hr, hb1⟩; obtain ⟨hc1, hf1⟩ := bcell hb1; have hl1 := ltW hb1)
  · go_ret
    exact ⟨rfl, by (repeat (first | with_reducible exact Below.refl _ _ | assumption | with_reducible refine Qdrew ?_ | with_reducible refine QdrewN ?_ | ((with_reducible refine Qset ?_ ?_); exact (by ((try simp only [World.size_alloc, World.size_setCell, World.size_drew, size_drewN]); (try dsimp only); omega))) | ((with_reducible refine Qalloc ?_ ?_); exact (by ((try simp only [World.size_alloc, World.size_setCell, World.size_drew, size_drewN]); (try dsimp only); omega))) | refine Qtrans (by assumption) (by ((try simp only [World.size_alloc, World.size_setCell, World.size_drew, size_drewN]); (try dsimp only); omega)) ?_))⟩
  · have hn : n ≤ 1048576 := by rcases hr with hr | hr <;> omega
    have hz1 := hb1.size
    simp only [World.size_alloc] at hz1
    have hs1 : w.heap.size < w1.heap.size := by omega
    have h1 := isStrs_below h0 (Nat.le_refl _) hb1
    skip
    go_wp2_with (go_at_call 26; refine (toSubst_any _ _ _ _ _ h1 hn).mono ?_; rintro e w2 ⟨g2, rfl, hg2, hown2, hb2⟩; obtain ⟨hc2, hf2⟩ := bcell hb2; have hl2 := ltW hb2)
    have hz2 := hb2.size
    have hs2 : w.heap.size < w2.heap.size := by omega
    have k2 := isStrs_own hown2 hz
    have h2 := isStrs_below h1 (Nat.le_refl _) hb2
    go_wp2_with (go_at_call 25; refine ((fun k hn => specInj_any _ _ _ zs m _ k hn) k2 hn).mono ?_; rintro e w3 ⟨rfl, hb3⟩; obtain ⟨hc3, hf3⟩ := bcell hb3; have hl3 := ltW hb3)
    have hz3 := hb3.size
    have hs3 : w.heap.size < w3.heap.size := by omega
    have h3 := isStrs_below h2 (Nat.le_refl _) hb3
    go_wp2_with (go_at_call 26; refine (toSubst_any _ _ _ _ _ h3 hn).mono ?_; rintro e w4 ⟨g4, rfl, hg4, hown4, hb4⟩; obtain ⟨hc4, hf4⟩ := bcell hb4; have hl4 := ltW hb4)
    have hz4 := hb4.size
    have hs4 : w.heap.size < w4.heap.size := by omega
    have hb40 : Below w4.heap.size w4 (w4.alloc (.cells #[.slice (some ⟨g4, 0, none⟩) n n] 39)) := (Below.refl _ w4).alloc (Nat.le_refl _) _
    have k4 := isStrs_below (isStrs_own hown4 hz) (Nat.le_refl _) hb40
    have h4 := isStrs_below (isStrs_below h3 (Nat.le_refl _) hb4) (Nat.le_refl _) hb40
    go_wp2_with (go_at_call 27; refine ((fun k hn => implInj_any _ _ _ zs m _ k hn) k4 hn).mono ?_; rintro e w5 ⟨rfl, hb5⟩; obtain ⟨hc5, hf5⟩ := bcell hb5; have hl5 := ltW hb5)
    have hz5 := hb5.size
    simp only [World.size_alloc] at hz5
    have hs5 : w.heap.size < w5.heap.size := by omega
    have hs6 : w4.heap.size < w5.heap.size := by omega
    have k5 := isStrs_below k4 (Nat.le_refl _) hb5
    have h5 := isStrs_below h4 (Nat.le_refl _) hb5
    have h5d : IsStrs w5.drew x n cap zs := h5
    have k5d : IsStrs w5.drew (some ⟨g4, 0, none⟩) n n zs := k5
    go_region_held3 (fun wx => (∀ bk ofs, bk < w5.heap.size → wx.cell? ⟨bk, ofs, none⟩ = (w5).cell? ⟨bk, ofs, none⟩) ∧ Below (w5.heap.size) (w5) wx) ((refine stays ?_; ((repeat (first | with_reducible exact Below.refl _ _ | assumption | with_reducible refine Qdrew ?_ | with_reducible refine QdrewN ?_ | ((with_reducible refine Qset ?_ ?_); exact (by ((try simp only [World.size_alloc, World.size_setCell, World.size_drew, size_drewN]); (try dsimp only); omega))) | ((with_reducible refine Qalloc ?_ ?_); exact (by ((try simp only [World.size_alloc, World.size_setCell, World.size_drew, size_drewN]); (try dsimp only); omega))) | refine Qtrans (by assumption) (by ((try simp only [World.size_alloc, World.size_setCell, World.size_drew, size_drewN]); (try dsimp only); omega)) ?_)) <;> (go_split_ands; assumption)))) (first | (go_at_call 26; refine (toSubst_any x n cap zs w5.drew h5d hn).mono ?_; rintro e w6 ⟨g6, rfl, hg6, hown6, hb6⟩; obtain ⟨hc6, hf6⟩ := bcell hb6; have hl6 := ltW hb6; have hz6 := hb6.size; (try simp only [World.size_drew] at hz6); have k6 := isStrs_own hown6 hz; have k7 := isStrs_below k5d (Nat.le_refl _) hb6) | (go_at_call 28; refine (eqSubst_same _ _ _ _ _ _ _ k7 k6).mono ?_; rintro e w7 ⟨rfl, hb7⟩; obtain ⟨hc7, hf7⟩ := bcell hb7; have hl7 := ltW hb7; have hz7 := hb7.size))
    all_goals go_wp2
    all_goals go_ret
    all_goals exact ⟨rfl, by (repeat (first | with_reducible exact Below.refl _ _ | assumption | with_reducible refine Qdrew ?_ | with_reducible refine QdrewN ?_ | ((with_reducible refine Qset ?_ ?_); exact (by ((try simp only [World.size_alloc, World.size_setCell, World.size_drew, size_drewN]); (try dsimp only); omega))) | ((with_reducible refine Qalloc ?_ ?_); exact (by ((try simp only [World.size_alloc, World.size_setCell, World.size_drew, size_drewN]); (try dsimp only); omega))) | refine Qtrans (by assumption) (by ((try simp only [World.size_alloc, World.size_setCell, World.size_drew, size_drewN]); (try dsimp only); omega)) ?_))⟩
end Go.Proofs.Ytfbcbfimhgaicaa
