/- The cuts of a word: every argument, and the law. -/
import Derived.Test.YtbplepeebapjcaaCuts
import Derived.Test.YtbplepeebapjcaaWordsI
set_option linter.unusedSimpArgs false
set_option linter.unusedVariables false
namespace Go.Proofs.Ytbplepeebapjcaa
open Go.RowKit
theorem cuts_len (zs : List ByteArray) (s : ByteArray) : (cuts zs s).length ≤ 401 := by
  unfold cuts; split
  · have h1 := (cs_len s zs (s.size + 1)).2
    have h2 := (isW_of ((Bool.and_eq_true _ _).mp (by assumption : (sB zs && isWB s) = true ∧ _).1).2).1
    omega
  · simp
set_option maxHeartbeats 2000000 in
theorem specCuts_any (x : Option Addr) (n cap : Nat) (zs : List ByteArray) (s : ByteArray) (w : World) (h : IsStrs w x n cap zs) (hn : n ≤ 1048576) (hs : s.size ≤ 9223372036854775807) :
    Calls Try.prog 45 #[.agg #[.slice x n cap], .string s] w fun e w' => ∃ y c, e = .returned (.slice y (cuts zs s).length c) ∧ w'.ownsRow w.heap.size 3 1 (.slice y (cuts zs s).length c) (cuts zs s).length (iv (cuts zs s)) ∧ Below w.heap.size w w' := by
  have hb0 : Below w.heap.size w (w.alloc (.cells #[.slice x n cap] 34)) := (Below.refl _ w).alloc (Nat.le_refl _) _
  have h' := isStrs_below h (Nat.le_refl _) hb0
  cases hk : sB zs && isWB s
  · have hL : Hid (cuts zs s = []) := by show _ = _; simp [cuts, hk]
    cases hS : sB zs
    · go_enter Try.func45, Try.ntmps45
      go_wp2_with (go_at_call 69; refine (l17Ok_any _ _ _ _ _ _ h' hn hs).mono ?_; rintro e w1 ⟨rfl, hb1⟩; obtain ⟨hc1, hf1⟩ := bcell hb1)
      go_ret
      exact ⟨none, 0, by rw [hL.out]; rfl, by rw [hL.out]; exact World.ownsRow_nil _ _ _ _, by (repeat (first | with_reducible exact Below.refl _ _ | assumption | with_reducible refine Qdrew ?_ | with_reducible refine QdrewN ?_ | ((with_reducible refine Qset ?_ ?_); exact (by ((try simp only [World.size_alloc, World.size_setCell, World.size_drew, size_drewN]); (try dsimp only); omega))) | ((with_reducible refine Qalloc ?_ ?_); exact (by ((try simp only [World.size_alloc, World.size_setCell, World.size_drew, size_drewN]); (try dsimp only); omega))) | refine Qtrans (by assumption) (by ((try simp only [World.size_alloc, World.size_setCell, World.size_drew, size_drewN]); (try dsimp only); omega)) ?_))⟩
    · rw [hS, Bool.true_and] at hk
      go_enter Try.func45, Try.ntmps45
      go_wp2_with (go_at_call 69; refine (l17Ok_any _ _ _ _ _ _ h' hn hs).mono ?_; rintro e w1 ⟨rfl, hb1⟩; obtain ⟨hc1, hf1⟩ := bcell hb1)
      go_ret
      exact ⟨none, 0, by rw [hL.out]; rfl, by rw [hL.out]; exact World.ownsRow_nil _ _ _ _, by (repeat (first | with_reducible exact Below.refl _ _ | assumption | with_reducible refine Qdrew ?_ | with_reducible refine QdrewN ?_ | ((with_reducible refine Qset ?_ ?_); exact (by ((try simp only [World.size_alloc, World.size_setCell, World.size_drew, size_drewN]); (try dsimp only); omega))) | ((with_reducible refine Qalloc ?_ ?_); exact (by ((try simp only [World.size_alloc, World.size_setCell, World.size_drew, size_drewN]); (try dsimp only); omega))) | refine Qtrans (by assumption) (by ((try simp only [World.size_alloc, World.size_setCell, World.size_drew, size_drewN]); (try dsimp only); omega)) ?_))⟩
  · have hk2 := hk
    rw [Bool.and_eq_true] at hk2
    obtain ⟨hS, hW⟩ := hk2
    by_cases hF0 : (wys s zs).getD 0 0 = 0
    · have hL : Hid (cuts zs s = []) := by show _ = _; unfold cuts; rw [if_neg (fun q => q.2 hF0)]
      obtain ⟨hn4, hz8⟩ := s_bounds h.1 hS
      have hs400 := (isW_of hW).1
      have hwl := Lib.hid (wys_len s zs)
      have hf0 : (0 : Int) < (s.size : Int) + 1 := by omega
      go_enter Try.func45, Try.ntmps45
      go_wp2_with (go_at_call 69; refine (l17Ok_any _ _ _ _ _ _ h' hn hs).mono ?_; rintro e w1 ⟨rfl, hb1⟩; obtain ⟨hc1, hf1⟩ := bcell hb1)
      have h1 := isStrs_below h' (Nat.le_refl _) hb1
      have hzz1 := hb1.size
      simp only [World.size_alloc] at hzz1
      go_wp2_with (go_at_call 70; refine (specWays_any _ _ _ _ _ _ h1 hn4 hz8 hs400).mono ?_; rintro e wA ⟨gF, rfl, hgF, hownF, hbA⟩; have hcc := own_cell hownF 0 (by omega); rw [iv_at _ _ (by rw [hwl.out]; omega), hF0] at hcc)
      go_ret
      exact ⟨none, 0, by rw [hL.out]; rfl, by rw [hL.out]; exact World.ownsRow_nil _ _ _ _, by (repeat (first | with_reducible exact Below.refl _ _ | assumption | with_reducible refine Qdrew ?_ | with_reducible refine QdrewN ?_ | ((with_reducible refine Qset ?_ ?_); exact (by ((try simp only [World.size_alloc, World.size_setCell, World.size_drew, size_drewN]); (try dsimp only); omega))) | ((with_reducible refine Qalloc ?_ ?_); exact (by ((try simp only [World.size_alloc, World.size_setCell, World.size_drew, size_drewN]); (try dsimp only); omega))) | refine Qtrans (by assumption) (by ((try simp only [World.size_alloc, World.size_setCell, World.size_drew, size_drewN]); (try dsimp only); omega)) ?_))⟩
    · have hL : cuts zs s = (cs s zs (s.size + 1)).2 := by unfold cuts; rw [if_pos ⟨hk, hF0⟩]
      rw [hL]
      exact (specCuts_ok x n cap zs s w h hn hk hF0).mono fun e w' ⟨g, c, q⟩ => ⟨_, c, q⟩
set_option maxHeartbeats 2000000 in
theorem implCuts_any (x : Option Addr) (n cap : Nat) (zs : List ByteArray) (s : ByteArray) (w : World) (h : IsStrs w x n cap zs) (hn : n ≤ 1048576) (hs : s.size ≤ 9223372036854775807) :
    Calls Try.prog 46 #[.agg #[.slice x n cap], .string s] w fun e w' => ∃ y c, e = .returned (.slice y (cuts zs s).length c) ∧ w'.ownsRow w.heap.size 3 1 (.slice y (cuts zs s).length c) (cuts zs s).length (iv (cuts zs s)) ∧ Below w.heap.size w w' := by
  have hb0 : Below w.heap.size w (w.alloc (.cells #[.slice x n cap] 34)) := (Below.refl _ w).alloc (Nat.le_refl _) _
  have h' := isStrs_below h (Nat.le_refl _) hb0
  cases hk : sB zs && isWB s
  · have hL : Hid (cuts zs s = []) := by show _ = _; simp [cuts, hk]
    cases hS : sB zs
    · go_enter Try.func46, Try.ntmps46
      go_wp2_with (first | (go_at_call 67; refine (implSubstOk_any _ _ _ _ _ h' hn).mono ?_; rintro e w1 ⟨rfl, hb1⟩; obtain ⟨hc1, hf1⟩ := bcell hb1) | (go_at_call 57; refine (isWord_any _ _ hs).mono ?_; rintro e w1 ⟨rfl, rfl⟩))
      go_ret
      exact ⟨none, 0, by rw [hL.out]; rfl, by rw [hL.out]; exact World.ownsRow_nil _ _ _ _, by (repeat (first | with_reducible exact Below.refl _ _ | assumption | with_reducible refine Qdrew ?_ | with_reducible refine QdrewN ?_ | ((with_reducible refine Qset ?_ ?_); exact (by ((try simp only [World.size_alloc, World.size_setCell, World.size_drew, size_drewN]); (try dsimp only); omega))) | ((with_reducible refine Qalloc ?_ ?_); exact (by ((try simp only [World.size_alloc, World.size_setCell, World.size_drew, size_drewN]); (try dsimp only); omega))) | refine Qtrans (by assumption) (by ((try simp only [World.size_alloc, World.size_setCell, World.size_drew, size_drewN]); (try dsimp only); omega)) ?_))⟩
    · rw [hS, Bool.true_and] at hk
      go_enter Try.func46, Try.ntmps46
      go_wp2_with (first | (go_at_call 67; refine (implSubstOk_any _ _ _ _ _ h' hn).mono ?_; rintro e w1 ⟨rfl, hb1⟩; obtain ⟨hc1, hf1⟩ := bcell hb1) | (go_at_call 57; refine (isWord_any _ _ hs).mono ?_; rintro e w1 ⟨rfl, rfl⟩))
      go_ret
      exact ⟨none, 0, by rw [hL.out]; rfl, by rw [hL.out]; exact World.ownsRow_nil _ _ _ _, by (repeat (first | with_reducible exact Below.refl _ _ | assumption | with_reducible refine Qdrew ?_ | with_reducible refine QdrewN ?_ | ((with_reducible refine Qset ?_ ?_); exact (by ((try simp only [World.size_alloc, World.size_setCell, World.size_drew, size_drewN]); (try dsimp only); omega))) | ((with_reducible refine Qalloc ?_ ?_); exact (by ((try simp only [World.size_alloc, World.size_setCell, World.size_drew, size_drewN]); (try dsimp only); omega))) | refine Qtrans (by assumption) (by ((try simp only [World.size_alloc, World.size_setCell, World.size_drew, size_drewN]); (try dsimp only); omega)) ?_))⟩
  · have hk2 := hk
    rw [Bool.and_eq_true] at hk2
    obtain ⟨hS, hW⟩ := hk2
    by_cases hF0 : (wys s zs).getD 0 0 = 0
    · have hL : Hid (cuts zs s = []) := by show _ = _; unfold cuts; rw [if_neg (fun q => q.2 hF0)]
      obtain ⟨hn4, hz8⟩ := s_bounds h.1 hS
      have hs400 := (isW_of hW).1
      have hwl := Lib.hid (wys_len s zs)
      have hf0 : (0 : Int) < (s.size : Int) + 1 := by omega
      go_enter Try.func46, Try.ntmps46
      go_wp2_with (first | (go_at_call 67; refine (implSubstOk_any _ _ _ _ _ h' hn).mono ?_; rintro e w1 ⟨rfl, hb1⟩; obtain ⟨hc1, hf1⟩ := bcell hb1) | (go_at_call 57; refine (isWord_any _ _ hs).mono ?_; rintro e w1 ⟨rfl, rfl⟩))
      have h1 := isStrs_below h' (Nat.le_refl _) hb1
      have hzz1 := hb1.size
      simp only [World.size_alloc] at hzz1
      go_wp2_with (go_at_call 71; refine (implWays_any _ _ _ _ _ _ h1 hn4 hz8 hs400).mono ?_; rintro e wA ⟨gF, rfl, hgF, hownF, hbA⟩; have hcc := own_cell hownF 0 (by omega); rw [iv_at _ _ (by rw [hwl.out]; omega), hF0] at hcc)
      go_ret
      exact ⟨none, 0, by rw [hL.out]; rfl, by rw [hL.out]; exact World.ownsRow_nil _ _ _ _, by (repeat (first | with_reducible exact Below.refl _ _ | assumption | with_reducible refine Qdrew ?_ | with_reducible refine QdrewN ?_ | ((with_reducible refine Qset ?_ ?_); exact (by ((try simp only [World.size_alloc, World.size_setCell, World.size_drew, size_drewN]); (try dsimp only); omega))) | ((with_reducible refine Qalloc ?_ ?_); exact (by ((try simp only [World.size_alloc, World.size_setCell, World.size_drew, size_drewN]); (try dsimp only); omega))) | refine Qtrans (by assumption) (by ((try simp only [World.size_alloc, World.size_setCell, World.size_drew, size_drewN]); (try dsimp only); omega)) ?_))⟩
    · have hL : cuts zs s = (cs s zs (s.size + 1)).2 := by unfold cuts; rw [if_pos ⟨hk, hF0⟩]
      rw [hL]
      exact (implCuts_ok x n cap zs s w h hn hk hF0).mono fun e w' ⟨g, c, q⟩ => ⟨_, c, q⟩
set_option maxHeartbeats 8000000 in
theorem CutsOf_law (w : World) (x : Option Addr) (n cap : Nat) (zs : List ByteArray) (h : IsStrs w x n cap zs) (s : ByteArray) (hs0 : s.size ≤ maxLen) :
    Calls Try.prog 13 #[.agg #[.slice x n cap], .string s] w fun e w' => e = .returned (.bool true) ∧ Below w.heap.size w w' := by
  have hs : s.size ≤ 9223372036854775807 := hs0
  clear hs0
  by_cases hbig : (1048576 : Int) < (s.size : Int)
  · go_enter Try.func13, Try.ntmps13
    go_wp2
    go_ret
    exact ⟨rfl, by (repeat (first | with_reducible exact Below.refl _ _ | assumption | with_reducible refine Qdrew ?_ | with_reducible refine QdrewN ?_ | ((with_reducible refine Qset ?_ ?_); exact (by ((try simp only [World.size_alloc, World.size_setCell, World.size_drew, size_drewN]); (try dsimp only); omega))) | ((with_reducible refine Qalloc ?_ ?_); exact (by ((try simp only [World.size_alloc, World.size_setCell, World.size_drew, size_drewN]); (try dsimp only); omega))) | refine Qtrans (by assumption) (by ((try simp only [World.size_alloc, World.size_setCell, World.size_drew, size_drewN]); (try dsimp only); omega)) ?_))⟩
  have hz := h.2.2.2.1
  have hspec := fun (y : Option Addr) (n cap : Nat) (w : World) (q : IsStrs w y n cap zs) (hn : n ≤ 1048576) => specCuts_any y n cap zs s w q hn hs
  have himpl := fun (y : Option Addr) (n cap : Nat) (w : World) (q : IsStrs w y n cap zs) (hn : n ≤ 1048576) => implCuts_any y n cap zs s w q hn hs
  have hLl := cuts_len zs s
  obtain ⟨L, hL⟩ : ∃ L, cuts zs s = L := ⟨_, rfl⟩
  rw [hL] at hspec himpl hLl
  obtain ⟨m, hm⟩ : ∃ m, L.length = m := ⟨_, rfl⟩
  rw [hm] at hspec himpl hLl
  clear hL hm
  have hb0 : Below w.heap.size w (w.alloc (.cells #[.slice x n cap] 39)) := (Below.refl _ w).alloc (Nat.le_refl _) _
  have h0 := isStrs_below h (Nat.le_refl _) hb0
  go_enter Try.func13, Try.ntmps13
  go_wp2_with (go_at_call 35; refine (szSubst_any _ _ _ _ _ _ h0 (by omega)).mono ?_; rintro e w1 ⟨r, rfl, hr, hb1⟩; obtain ⟨hc1, hf1⟩ := bcell hb1; have hl1 := ltW hb1)
  · go_ret
    exact ⟨rfl, by (repeat (first | with_reducible exact Below.refl _ _ | assumption | with_reducible refine Qdrew ?_ | with_reducible refine QdrewN ?_ | ((with_reducible refine Qset ?_ ?_); exact (by ((try simp only [World.size_alloc, World.size_setCell, World.size_drew, size_drewN]); (try dsimp only); omega))) | ((with_reducible refine Qalloc ?_ ?_); exact (by ((try simp only [World.size_alloc, World.size_setCell, World.size_drew, size_drewN]); (try dsimp only); omega))) | refine Qtrans (by assumption) (by ((try simp only [World.size_alloc, World.size_setCell, World.size_drew, size_drewN]); (try dsimp only); omega)) ?_))⟩
  have hn : n ≤ 1048576 := by rcases hr with hr | hr <;> omega
  have z1 := hb1.size
  simp only [World.size_alloc] at z1
  have s1 : w.heap.size < w1.heap.size := by omega
  have h1 := isStrs_below h0 (Nat.le_refl _) hb1
  have t1 : w1.cell? ⟨w.heap.size, 0, none⟩ = some (.slice x n cap) := by rw [hc1 _ _ (by simp)]; simp [go_sem]
  go_wp2_with (go_at_call 37; refine (toSubst_any _ _ _ _ _ h1 hn).mono ?_; rintro e w2 ⟨g2, rfl, hg2, hown2, hb2⟩)
  have z2 := hb2.size
  have k2 := isStrs_own hown2 hz
  have h2 := isStrs_below h1 (Nat.le_refl _) hb2
  have t2 : w2.cell? ⟨w.heap.size, 0, none⟩ = some (.slice x n cap) := (hb2.cell (by exact s1)).trans t1
  have s2 : w.heap.size < w2.heap.size := by omega
  go_wp2_with (go_at_call 45; refine (hspec _ _ _ _ k2 hn).mono ?_; rintro e w3 ⟨x3, c3, rfl, o3, hb3⟩; have t3 := (hb3.cell (p := ⟨w.heap.size, 0, none⟩) s2).trans t2)
  have z3 := hb3.size
  have s3 : w.heap.size < w3.heap.size := by omega
  have h3 := isStrs_below h2 (Nat.le_refl _) hb3
  have r3 := rI_own o3 (by omega)
  go_wp2_with (go_at_call 37; refine (toSubst_any _ _ _ _ _ h3 hn).mono ?_; rintro e w4 ⟨g4, rfl, hg4, hown4, hb4⟩; obtain ⟨hc4, hf4⟩ := bcell hb4; have hl4 := ltW hb4)
  have z4 := hb4.size
  have s4 : w.heap.size < w4.heap.size := by omega
  have hg4l := (hown4.lt g4 rfl).2
  have B4 : Below w4.heap.size w4 (w4.alloc (.cells #[.slice (some ⟨g4, 0, none⟩) n n] 34)) := (Below.refl _ w4).alloc (Nat.le_refl _) _
  have k4 := isStrs_below (isStrs_own hown4 hz) (Nat.le_refl _) B4
  have h4 := isStrs_below (isStrs_below h3 (Nat.le_refl _) hb4) (Nat.le_refl _) B4
  have r4 := rI_below (rI_below r3 (Nat.le_refl _) hb4) (Nat.le_refl _) B4
  have o4 := own_below hown4 B4
  have t4 : w4.cell? ⟨w.heap.size, 0, none⟩ = some (.slice x n cap) := (hb4.cell (by exact s3)).trans t3
  have t4' : (w4.alloc (.cells #[.slice (some ⟨g4, 0, none⟩) n n] 34)).cell? ⟨w.heap.size, 0, none⟩ = some (.slice x n cap) := (calloc s4).trans t4
  go_wp2_with (go_at_call 46; refine (himpl _ _ _ _ k4 hn).mono ?_; rintro e w5 ⟨x5, c5, rfl, o5, hb5⟩)
  have z5 := hb5.size
  simp only [World.size_alloc] at z5
  have s5 : w.heap.size < w5.heap.size := by omega
  have s45 : w4.heap.size < w5.heap.size := by omega
  have h5 := isStrs_below h4 (Nat.le_refl _) hb5
  have k5 := isStrs_below k4 (Nat.le_refl _) hb5
  have r5 := rI_below r4 (Nat.le_refl _) hb5
  have q5 := rI_own o5 (by omega)
  have o45 := own_below o4 hb5
  have t5 : w5.cell? ⟨w.heap.size, 0, none⟩ = some (.slice x n cap) := (hb5.cell (by simp; omega)).trans t4'
  have u5 : w5.cell? ⟨w4.heap.size, 0, none⟩ = some (.slice (some ⟨g4, 0, none⟩) n n) := (hb5.cell (by simp)).trans (by simp [go_sem])
  go_wp2_with (go_at_call 47; refine (eqIntS_same _ _ _ _ _ _ _ q5 r5).mono ?_; rintro e w6 ⟨rfl, hb6⟩)
  have z6 := hb6.size
  have s6 : w.heap.size < w6.heap.size := by omega
  have s46 : w4.heap.size < w6.heap.size := by omega
  have h6a := isStrs_below h5 (Nat.le_refl _) hb6
  have k6a := isStrs_below k5 (Nat.le_refl _) hb6
  have h6 : IsStrs w6.drew x n cap zs := h6a
  have k6 : IsStrs w6.drew (some ⟨g4, 0, none⟩) n n zs := k6a
  have t6 : w6.cell? ⟨w.heap.size, 0, none⟩ = some (.slice x n cap) := (hb6.cell (by exact s5)).trans t5
  have u6 : w6.cell? ⟨w4.heap.size, 0, none⟩ = some (.slice (some ⟨g4, 0, none⟩) n n) := (hb6.cell (by exact s45)).trans u5
  go_region_held3 (fun wx => (∀ bk ofs, bk < w6.heap.size → wx.cell? ⟨bk, ofs, none⟩ = (w6).cell? ⟨bk, ofs, none⟩) ∧ Below (w6.heap.size) (w6) wx) ((refine stays ?_; ((repeat (first | with_reducible exact Below.refl _ _ | assumption | with_reducible refine Qdrew ?_ | with_reducible refine QdrewN ?_ | ((with_reducible refine Qset ?_ ?_); exact (by ((try simp only [World.size_alloc, World.size_setCell, World.size_drew, size_drewN]); (try dsimp only); omega))) | ((with_reducible refine Qalloc ?_ ?_); exact (by ((try simp only [World.size_alloc, World.size_setCell, World.size_drew, size_drewN]); (try dsimp only); omega))) | refine Qtrans (by assumption) (by ((try simp only [World.size_alloc, World.size_setCell, World.size_drew, size_drewN]); (try dsimp only); omega)) ?_)) <;> (go_split_ands; assumption)))) (first | (go_at_call 37; refine (toSubst_any x n cap zs w6.drew h6 hn).mono ?_; rintro e w7 ⟨g7, rfl, hg7, hown7, hb7⟩; obtain ⟨hc7, hf7⟩ := bcell hb7; have hl7 := ltW hb7; have z7 := hb7.size; (try simp only [World.size_drew] at z7); have k7 := isStrs_own hown7 hz; have k7' := isStrs_below k6 (Nat.le_refl _) hb7) | (go_at_call 32; refine (eqSubst_same _ _ _ _ _ _ _ k7' k7).mono ?_; rintro e w8 ⟨rfl, hb8⟩; obtain ⟨hc8, hf8⟩ := bcell hb8; have hl8 := ltW hb8; have z8 := hb8.size))
  have hb67 : Below w6.heap.size w6 w7 := Qtrans hb7 (Nat.le_refl _) (Qdrew (Below.refl _ _))
  have hb68 : Below w6.heap.size w6 w8 := Qtrans hb8 z7 hb67
  have z68 := hb68.size
  have s8 : w.heap.size < w8.heap.size := by omega
  have s48 : w4.heap.size < w8.heap.size := by omega
  have t8 : w8.cell? ⟨w.heap.size, 0, none⟩ = some (.slice x n cap) := (hb68.cell (by exact s6)).trans t6
  have u8 : w8.cell? ⟨w4.heap.size, 0, none⟩ = some (.slice (some ⟨g4, 0, none⟩) n n) := (hb68.cell (by exact s46)).trans u6
  have r8 := rI_below (rI_below r5 (Nat.le_refl _) hb6) (Nat.le_refl _) hb68
  have o48 := own_below (own_below o45 hb6) hb68
  have o58 := own_below (own_below o5 hb6) hb68
  have d4 : Below w.heap.size w w4 := Qtrans hb4 (by omega) (Qtrans hb3 (by omega) (Qtrans hb2 (by omega) (Qtrans hb1 (by simp) hb0)))
  have d8 : Below w.heap.size w w8 := Qtrans hb68 (by omega) (Qtrans hb6 (by omega) (Qtrans hb5 (by simp; omega) (Qtrans B4 (by omega) d4)))
  have e5 : ∀ k, (Value.slice x5 m c5).ownBlock = some k → w4.heap.size + 1 ≤ k := fun k hk => by have := (o5.lt k hk).1; simpa using this
  have e3 : ∀ b off, x3 = some ⟨b, off, none⟩ → b < w3.heap.size := fun b off q => by subst q; exact (o3.lt b rfl).2
  clear hc7 hc8 hl7 hl8 hf7 hf8
  go_wp2_with fail
  go_at_call 33
  refine (markSubst_any _ _ _ 1 _ _ _ o48 (by omega)).mono ?_
  rintro e w9 ⟨rfl, o49, hg9⟩
  have z9 := hg9.size
  have s9 : w.heap.size < w9.heap.size := by omega
  have t9 : w9.cell? ⟨w.heap.size, 0, none⟩ = some (.slice x n cap) := (hg9.cell_far ⟨w.heap.size, 0, none⟩ s8 (by simp [Value.ownBlock]; omega)).trans t8
  have r9 := rI_grownBy r8 hg9 (fun b off q => by have := e3 b off q; simp [Value.ownBlock]; omega)
  have o59 := o58.kept hg9 (.inr (fun q => by have := e5 g4 q; omega))
  have q9 := rI_own o59 (by omega)
  have d9 : Below w.heap.size w w9 := d8.grown hg9 (by omega) (fun k hk => by cases hk; show w.heap.size ≤ g4; omega)
  go_wp2_with (go_at_call 47; refine (eqIntS_same _ _ _ _ _ _ _ q9 r9).mono ?_; rintro e w10 ⟨rfl, hb10⟩)
  have z10 := hb10.size
  have s10 : w.heap.size < w10.heap.size := by omega
  have t10 : w10.cell? ⟨w.heap.size, 0, none⟩ = some (.slice x n cap) := (hb10.cell (by exact s9)).trans t9
  have r10 := rI_below r9 (Nat.le_refl _) hb10
  have o510 := own_below o59 hb10
  have d10 : Below w.heap.size w w10 := Qtrans hb10 (by omega) d9
  go_at_call 48
  refine (markIntS_any _ _ _ 1 _ _ _ o510 (by omega)).mono ?_
  rintro e w11 ⟨rfl, o511, hg11⟩
  have z11 := hg11.size
  have s11 : w.heap.size < w11.heap.size := by omega
  have t11 : w11.cell? ⟨w.heap.size, 0, none⟩ = some (.slice x n cap) := (hg11.cell_far ⟨w.heap.size, 0, none⟩ s10 (fun q => by have := e5 w.heap.size q.symm; omega)).trans t10
  have r11 := rI_grownBy r10 hg11 (fun b off q q2 => by have := e3 b off q; have := e5 b q2.symm; omega)
  have q11 := rI_own o511 (by omega)
  have d11 : Below w.heap.size w w11 := d10.grown hg11 (by omega) (fun k hk => by have := e5 k hk; omega)
  have h11 := isStrs_below h (Nat.le_refl _) d11
  go_wp2_with (first | (go_at_call 49; refine (heldIntS_any _ _ _ 1 _ q11 (by omega)).mono ?_; rintro e w1 ⟨rfl, rfl⟩) | (go_at_call 37; refine (toSubst_any _ _ _ _ _ h11 hn).mono ?_; rintro e w12 ⟨g12, rfl, hg12, hown12, hb12⟩))
  have z12 := hb12.size
  have k12 := isStrs_own hown12 hz
  have r12 := rI_below r11 (Nat.le_refl _) hb12
  have q12 := rI_below q11 (Nat.le_refl _) hb12
  go_wp2_with (go_at_call 46; refine (himpl _ _ _ _ k12 hn).mono ?_; rintro e w13 ⟨x13, c13, rfl, o13, hb13⟩)
  have z13 := hb13.size
  have r13 := rI_below r12 (Nat.le_refl _) hb13
  have q13 := rI_below q12 (Nat.le_refl _) hb13
  have p13 := rI_own o13 (by omega)
  go_wp2_with (go_at_call 47; refine (eqIntS_same _ _ _ _ _ _ _ p13 r13).mono ?_; rintro e w14 ⟨rfl, hb14⟩)
  have z14 := hb14.size
  have q14 := rI_below q13 (Nat.le_refl _) hb14
  go_wp2_with ((go_at_call 49; refine (heldIntS_any _ _ _ 1 _ q14 (by omega)).mono ?_; rintro e w1 ⟨rfl, rfl⟩))
  go_ret
  exact ⟨rfl, Qtrans hb14 (by omega) (Qtrans hb13 (by omega) (Qtrans hb12 (by omega) d11))⟩
end Go.Proofs.Ytbplepeebapjcaa
