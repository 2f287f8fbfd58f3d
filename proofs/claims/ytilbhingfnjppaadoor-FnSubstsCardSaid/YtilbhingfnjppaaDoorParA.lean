/- The number of parents: the walks and the law. -/
import Derived.Test.YtilbhingfnjppaaDoorWays
set_option linter.unusedSimpArgs false
set_option linter.unusedVariables false
namespace Go.Proofs.YtilbhingfnjppaaDoor
open Go.RowKit
theorem s_bounds {zs : List ByteArray} {n : Nat} (hl : zs.length = n) (h : sB zs = true) : n ≤ 4 ∧ ∀ j, j < n → (zs.getD j ByteArray.empty).size ≤ 8 := by
  have q := s_of h
  exact ⟨by have := q.1; omega, fun j hj => (q.2 j (by omega)).1.2⟩
noncomputable def pk (zs : List ByteArray) (s : ByteArray) : Bool := sB zs && isWB s
noncomputable def cpV (zs : List ByteArray) (s : ByteArray) : Int := if pk zs s then (wys s zs).getD 0 0 else -1
theorem wys_len (s : ByteArray) (zs : List ByteArray) : (wys s zs).length = s.size + 1 := wq_len s zs s.size
def BXo (x : Option Addr) (n cap : Nat) : Obj := .cells #[.slice x n cap] 27
set_option maxRecDepth 20000 in
set_option maxHeartbeats 1000000 in
theorem implCount_any (x : Option Addr) (n cap : Nat) (zs : List ByteArray) (s : ByteArray) (w : World) (h : IsStrs w x n cap zs) (hn : n ≤ 1048576) (hs : s.size ≤ 9223372036854775807) :
    Calls Tryd.prog 20 #[.agg #[.slice x n cap], .string s] w fun e w' => e = .returned (.int .i64 (cpV zs s)) ∧ Below w.heap.size w w' := by
  have hb0 : Below w.heap.size w (w.alloc (.cells #[.slice x n cap] 27)) := (Below.refl _ w).alloc (Nat.le_refl _) _
  have h' := isStrs_below h (Nat.le_refl _) hb0
  cases hk : sB zs && isWB s
  · have hv : Hid (cpV zs s = -1) := by show _ = _; simp [cpV, pk, hk]
    cases hS : sB zs
    · go_enter Tryd.func20, Tryd.ntmps20
      go_wp2_with (go_at_call 57; refine (implSubstOk_any _ _ _ _ _ h' hn).mono ?_; rintro e w1 ⟨rfl, hb1⟩)
      go_ret
      exact ⟨ret_int hv.out.symm, by (repeat (first | with_reducible exact Below.refl _ _ | assumption | with_reducible refine Qdrew ?_ | with_reducible refine QdrewN ?_ | ((with_reducible refine Qset ?_ ?_); exact (by ((try simp only [World.size_alloc, World.size_setCell, World.size_drew, size_drewN]); (try dsimp only); omega))) | ((with_reducible refine Qalloc ?_ ?_); exact (by ((try simp only [World.size_alloc, World.size_setCell, World.size_drew, size_drewN]); (try dsimp only); omega))) | refine Qtrans (by assumption) (by ((try simp only [World.size_alloc, World.size_setCell, World.size_drew, size_drewN]); (try dsimp only); omega)) ?_))⟩
    · rw [hS, Bool.true_and] at hk
      go_enter Tryd.func20, Tryd.ntmps20
      go_wp2_with (first | (go_at_call 57; refine (implSubstOk_any _ _ _ _ _ h' hn).mono ?_; rintro e w1 ⟨rfl, hb1⟩) | (go_at_call 63; refine (isWord_any _ _ hs).mono ?_; rintro e w1 ⟨rfl, rfl⟩))
      go_ret
      exact ⟨ret_int hv.out.symm, by (repeat (first | with_reducible exact Below.refl _ _ | assumption | with_reducible refine Qdrew ?_ | with_reducible refine QdrewN ?_ | ((with_reducible refine Qset ?_ ?_); exact (by ((try simp only [World.size_alloc, World.size_setCell, World.size_drew, size_drewN]); (try dsimp only); omega))) | ((with_reducible refine Qalloc ?_ ?_); exact (by ((try simp only [World.size_alloc, World.size_setCell, World.size_drew, size_drewN]); (try dsimp only); omega))) | refine Qtrans (by assumption) (by ((try simp only [World.size_alloc, World.size_setCell, World.size_drew, size_drewN]); (try dsimp only); omega)) ?_))⟩
  · have hv : Hid (cpV zs s = (wys s zs).getD 0 0) := by show _ = _; simp [cpV, pk, hk]
    rw [Bool.and_eq_true] at hk
    obtain ⟨hk1, hk2⟩ := hk
    obtain ⟨hn4, hz8⟩ := s_bounds h.1 hk1
    have hs4 := (isW_of hk2).1
    have hwl := Lib.hid (wys_len s zs)
    have f1 : (0 : Int) < (s.size : Int) + 1 := by omega
    go_enter Tryd.func20, Tryd.ntmps20
    go_wp2_with (first | (go_at_call 57; refine (implSubstOk_any _ _ _ _ _ h' hn).mono ?_; rintro e w1 ⟨rfl, hb1⟩; obtain ⟨hc1, hf1⟩ := bcell hb1) | (go_at_call 63; refine (isWord_any _ _ hs).mono ?_; rintro e w1 ⟨rfl, rfl⟩))
    have h1 := isStrs_below h' (Nat.le_refl _) hb1
    go_wp2_with (go_at_call 65; refine (implWays_any _ _ _ _ _ _ h1 hn4 hz8 hs4).mono ?_; rintro e w2 ⟨g, rfl, hg, hown, hb2⟩; have hcc := own_cell hown 0 (by omega); rw [iv_at _ _ (by rw [hwl.out]; omega)] at hcc)
    have hz1 := hb1.size
    simp only [World.size_alloc] at hz1
    go_ret
    exact ⟨ret_int hv.out.symm, by (repeat (first | with_reducible exact Below.refl _ _ | assumption | with_reducible refine Qdrew ?_ | with_reducible refine QdrewN ?_ | ((with_reducible refine Qset ?_ ?_); exact (by ((try simp only [World.size_alloc, World.size_setCell, World.size_drew, size_drewN]); (try dsimp only); omega))) | ((with_reducible refine Qalloc ?_ ?_); exact (by ((try simp only [World.size_alloc, World.size_setCell, World.size_drew, size_drewN]); (try dsimp only); omega))) | refine Qtrans (by assumption) (by ((try simp only [World.size_alloc, World.size_setCell, World.size_drew, size_drewN]); (try dsimp only); omega)) ?_))⟩
end Go.Proofs.YtilbhingfnjppaaDoor
