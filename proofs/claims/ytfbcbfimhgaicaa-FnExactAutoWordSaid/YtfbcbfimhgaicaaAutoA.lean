/- Automata: the laws' own copies and tests. -/
import Derived.Test.YtfbcbfimhgaicaaMatA
set_option linter.unusedSimpArgs false
set_option linter.unusedVariables false
namespace Go.Proofs.Ytfbcbfimhgaicaa
open Go.RowKit
set_option maxHeartbeats 1000000 in
theorem szAuto_any (b : Int) (x : Option Addr) (n cap : Nat) (Z : Nat → List Int) (o : ByteArray) (w : World) (h : IsMat w x n Z) (ho : o.size ≤ 9223372036854775807) :
    Calls Try.prog 15 #[(Value.agg #[.int .i64 b, .slice x n cap, .string o]), .int .i64 1048576] w fun e w' => ∃ r : Int, e = .returned (.int .i64 r) ∧ (r = -1 ∨ (0 ≤ r ∧ n ≤ 1048576 ∧ (∀ j, j < n → (Z j).length ≤ 1048576) ∧ o.size ≤ 1048576)) ∧ Below w.heap.size w w' := by
  have h' := isMat_below h (Nat.le_refl _) ((Below.refl _ w).alloc (Nat.le_refl _) (Obj.cells #[.int .i64 b, .slice x n cap, .string o] 24))
  go_enter Try.func15, Try.ntmps15
  go_wp2_with (go_at_call 53; refine (szIntSS_any _ _ _ Z 1048576 _ h' (Nat.le_refl _)).mono ?_; rintro e w1 ⟨r, rfl, hr, rfl⟩)
  · go_ret
    exact ⟨-1, rfl, .inl rfl, by (repeat (first | with_reducible exact Below.refl _ _ | assumption | with_reducible refine Qdrew ?_ | with_reducible refine QdrewN ?_ | ((with_reducible refine Qset ?_ ?_); exact (by ((try simp only [World.size_alloc, World.size_setCell, World.size_drew, size_drewN]); (try dsimp only); omega))) | ((with_reducible refine Qalloc ?_ ?_); exact (by ((try simp only [World.size_alloc, World.size_setCell, World.size_drew, size_drewN]); (try dsimp only); omega))) | refine Qtrans (by assumption) (by ((try simp only [World.size_alloc, World.size_setCell, World.size_drew, size_drewN]); (try dsimp only); omega)) ?_))⟩
  · go_ret
    exact ⟨-1, rfl, .inl rfl, by (repeat (first | with_reducible exact Below.refl _ _ | assumption | with_reducible refine Qdrew ?_ | with_reducible refine QdrewN ?_ | ((with_reducible refine Qset ?_ ?_); exact (by ((try simp only [World.size_alloc, World.size_setCell, World.size_drew, size_drewN]); (try dsimp only); omega))) | ((with_reducible refine Qalloc ?_ ?_); exact (by ((try simp only [World.size_alloc, World.size_setCell, World.size_drew, size_drewN]); (try dsimp only); omega))) | refine Qtrans (by assumption) (by ((try simp only [World.size_alloc, World.size_setCell, World.size_drew, size_drewN]); (try dsimp only); omega)) ?_))⟩
  · go_ret
    exact ⟨_, rfl, .inr (by
      rcases hr with hr | ⟨q1, q2, q3, q4⟩
      · omega
      · exact ⟨by omega, q3, q4, by omega⟩), by (repeat (first | with_reducible exact Below.refl _ _ | assumption | with_reducible refine Qdrew ?_ | with_reducible refine QdrewN ?_ | ((with_reducible refine Qset ?_ ?_); exact (by ((try simp only [World.size_alloc, World.size_setCell, World.size_drew, size_drewN]); (try dsimp only); omega))) | ((with_reducible refine Qalloc ?_ ?_); exact (by ((try simp only [World.size_alloc, World.size_setCell, World.size_drew, size_drewN]); (try dsimp only); omega))) | refine Qtrans (by assumption) (by ((try simp only [World.size_alloc, World.size_setCell, World.size_drew, size_drewN]); (try dsimp only); omega)) ?_))⟩
set_option maxHeartbeats 1000000 in
theorem toAuto_any (b : Int) (x : Option Addr) (n cap : Nat) (Z : Nat → List Int) (o : ByteArray) (w : World) (h : IsMat w x n Z) (hn : n ≤ 1048576) (hZ : ∀ r, r < n → (Z r).length ≤ 1048576) :
    Calls Try.prog 17 #[(Value.agg #[.int .i64 b, .slice x n cap, .string o])] w fun e w' => ∃ g, e = .returned (Value.agg #[.int .i64 b, .slice (some ⟨g, 0, none⟩) n n, .string o]) ∧ w.heap.size ≤ g ∧ IsMat w' (some ⟨g, 0, none⟩) n Z ∧ Below w.heap.size w w' := by
  go_enter Try.func17, Try.ntmps17
  go_wp2_with fail
  have hW : Below w.heap.size w (((w.alloc (Obj.cells #[.int .i64 b, .slice x n cap, .string o] 24)).alloc (Obj.cells #[.int .i64 0, .slice none 0 0, .string ⟨#[]⟩] 27)).alloc (Obj.cells #[.int .i64 b, .slice none 0 0, .string ⟨#[]⟩] 27)) := by (repeat (first | with_reducible exact Below.refl _ _ | assumption | with_reducible refine Qdrew ?_ | with_reducible refine QdrewN ?_ | ((with_reducible refine Qset ?_ ?_); exact (by ((try simp only [World.size_alloc, World.size_setCell, World.size_drew, size_drewN]); (try dsimp only); omega))) | ((with_reducible refine Qalloc ?_ ?_); exact (by ((try simp only [World.size_alloc, World.size_setCell, World.size_drew, size_drewN]); (try dsimp only); omega))) | refine Qtrans (by assumption) (by ((try simp only [World.size_alloc, World.size_setCell, World.size_drew, size_drewN]); (try dsimp only); omega)) ?_))
  have h' := isMat_below h (Nat.le_refl _) hW
  go_wp2_with (go_at_call 56; refine (toIntSS_any _ _ _ Z _ h' hn hZ).mono ?_; rintro e w1 ⟨g, rfl, hg, hm, hb1⟩; obtain ⟨hc1, hf1⟩ := bcell hb1; have hl1 := ltW hb1)
  refine bodyPost_ret (v := (Value.agg #[.int .i64 b, .slice (some ⟨g, 0, none⟩) n n, .string o])) (by simp [results, Try.results17, go_sem, csame, cset, *]) rfl ⟨g, rfl, by simp at hg; omega, ?_, ?_⟩
  · have hm' := hm
    simp only [World.size_alloc] at hm'
    refine isMatB_mat (B := w.heap.size + 1 + 1 + 1) ?_
    repeat (first | exact hm' | ((with_reducible refine isMatB_set ?_ ?_ _); rotate_left; omega))
  · have hz1 := hb1.size
    simp at hz1
    (repeat (first | with_reducible exact Below.refl _ _ | assumption | with_reducible refine Qdrew ?_ | with_reducible refine QdrewN ?_ | ((with_reducible refine Qset ?_ ?_); exact (by ((try simp only [World.size_alloc, World.size_setCell, World.size_drew, size_drewN]); (try dsimp only); omega))) | ((with_reducible refine Qalloc ?_ ?_); exact (by ((try simp only [World.size_alloc, World.size_setCell, World.size_drew, size_drewN]); (try dsimp only); omega))) | refine Qtrans (by assumption) (by ((try simp only [World.size_alloc, World.size_setCell, World.size_drew, size_drewN]); (try dsimp only); omega)) ?_))
set_option maxHeartbeats 1000000 in
theorem eqAuto_same (b : Int) (x y : Option Addr) (n cap cap' : Nat) (Z : Nat → List Int) (o : ByteArray) (w : World) (h : IsMat w x n Z) (h' : IsMat w y n Z) :
    Calls Try.prog 19 #[(Value.agg #[.int .i64 b, .slice x n cap, .string o]), (Value.agg #[.int .i64 b, .slice y n cap', .string o])] w fun e w' => e = .returned (.bool true) ∧ Below w.heap.size w w' := by
  have hW : Below w.heap.size w ((w.alloc (Obj.cells #[.int .i64 b, .slice x n cap, .string o] 27)).alloc (Obj.cells #[.int .i64 b, .slice y n cap', .string o] 27)) := by (repeat (first | with_reducible exact Below.refl _ _ | assumption | with_reducible refine Qdrew ?_ | with_reducible refine QdrewN ?_ | ((with_reducible refine Qset ?_ ?_); exact (by ((try simp only [World.size_alloc, World.size_setCell, World.size_drew, size_drewN]); (try dsimp only); omega))) | ((with_reducible refine Qalloc ?_ ?_); exact (by ((try simp only [World.size_alloc, World.size_setCell, World.size_drew, size_drewN]); (try dsimp only); omega))) | refine Qtrans (by assumption) (by ((try simp only [World.size_alloc, World.size_setCell, World.size_drew, size_drewN]); (try dsimp only); omega)) ?_))
  have k1 := isMat_below h (Nat.le_refl _) hW
  have k2 := isMat_below h' (Nat.le_refl _) hW
  go_enter Try.func19, Try.ntmps19
  go_wp2_with (go_at_call 59; refine (eqIntSS_same _ _ _ _ _ Z _ k1 k2).mono ?_; rintro e w1 ⟨rfl, hb1⟩; obtain ⟨hc1, hf1⟩ := bcell hb1; have hl1 := ltW hb1)
  go_ret
  exact ⟨rfl, by (repeat (first | with_reducible exact Below.refl _ _ | assumption | with_reducible refine Qdrew ?_ | with_reducible refine QdrewN ?_ | ((with_reducible refine Qset ?_ ?_); exact (by ((try simp only [World.size_alloc, World.size_setCell, World.size_drew, size_drewN]); (try dsimp only); omega))) | ((with_reducible refine Qalloc ?_ ?_); exact (by ((try simp only [World.size_alloc, World.size_setCell, World.size_drew, size_drewN]); (try dsimp only); omega))) | refine Qtrans (by assumption) (by ((try simp only [World.size_alloc, World.size_setCell, World.size_drew, size_drewN]); (try dsimp only); omega)) ?_))⟩
end Go.Proofs.Ytfbcbfimhgaicaa
