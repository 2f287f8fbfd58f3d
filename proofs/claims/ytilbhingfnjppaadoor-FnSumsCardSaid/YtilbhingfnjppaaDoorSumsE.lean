/- The walks of weights, numerals and numbers, and the laws on them. -/
import Derived.Test.YtilbhingfnjppaaDoorSumsC
import Derived.Test.YtilbhingfnjppaaDoorSumsD
import Derived.Test.YtilbhingfnjppaaDoorIn
set_option linter.unusedSimpArgs false
set_option linter.unusedVariables false
namespace Go.Proofs.YtilbhingfnjppaaDoor
open Go.RowKit
/-! ### Weights -/
def wv (i : Int) : Int := if inB i 0 59 then wt i.toNat else -1
set_option maxRecDepth 20000 in
set_option maxHeartbeats 400000 in
theorem implWeightOf_any (i : Int) (w : World) :
    Calls Tryd.prog 42 #[.int .i64 i] w fun e w' => e = .returned (.int .i64 (wv i)) ∧ Below w.heap.size w w' := by
  cases hin : inB i 0 59
  · go_enter Tryd.func42, Tryd.ntmps42
    go_wp2_with ((go_at_call 50; refine (within_any _ _ _ _).mono ?_; rintro e w1 ⟨rfl, rfl⟩))
    go_ret
    exact ⟨ret_int (by simp [wv, hin]), by (repeat (first | with_reducible exact Below.refl _ _ | assumption | with_reducible refine Qdrew ?_ | with_reducible refine QdrewN ?_ | ((with_reducible refine Qset ?_ ?_); exact (by ((try simp only [World.size_alloc, World.size_setCell, World.size_drew, size_drewN]); (try dsimp only); omega))) | ((with_reducible refine Qalloc ?_ ?_); exact (by ((try simp only [World.size_alloc, World.size_setCell, World.size_drew, size_drewN]); (try dsimp only); omega))) | refine Qtrans (by assumption) (by ((try simp only [World.size_alloc, World.size_setCell, World.size_drew, size_drewN]); (try dsimp only); omega)) ?_))⟩
  · have hi := inB_true.1 hin
    obtain ⟨k, rfl⟩ : ∃ k : Nat, i = (k : Int) := ⟨i.toNat, by omega⟩
    have hk : k ≤ 59 := by omega
    have hk0 : (0 : Int) ≤ (k : Int) := by omega
    have hk1 : (k : Int) < 60 := by omega
    have hk2 : (k : Int) < (k : Int) + 1 := by omega
    clear hi
    go_enter Tryd.func42, Tryd.ntmps42
    go_wp2_with (first | (go_at_call 50; refine (within_any _ _ _ _).mono ?_; rintro e w1 ⟨rfl, rfl⟩) | (go_at_call 84; refine (implWeights_any 60 _ _ (by omega) (by omega) (by omega)).mono ?_; rintro e wA ⟨g, cap, rfl, hg1, hg2, hwt, hb1⟩; have hcell := hwt k (by omega)))
    go_ret
    exact ⟨ret_int (by simp [wv, hin]), hb1⟩
/-! ### The test on numerals -/
theorem implNumeralOk_b (s : ByteArray) (w : World) (hs' : s.size ≤ 9223372036854775807) : Calls Tryd.prog 39 #[.string s] w fun e w' => e = .returned (.bool (nokB s)) ∧ Below w.heap.size w w' :=
  (implNumeralOk_any s w hs').mono fun e w' h => ⟨h.1, by rw [h.2]; exact Below.refl _ _⟩
/-! ### Numerals -/
def nm (b : Bool) (n : Int) : ByteArray := if b then num n else ⟨#[]⟩
set_option maxRecDepth 20000 in
set_option maxHeartbeats 400000 in
theorem l13Most_any (w : World) : Calls Tryd.prog 48 #[] w fun e w' => e = .returned (.int .i64 1000000000000) ∧ w = w' := by
  go_enter Tryd.func48, Tryd.ntmps48
  go_wp2
  go_ret
  exact ⟨rfl, rfl⟩
theorem implNumeral_lo (n : Int) (w : World) (h : -9223372036854775808 ≤ n ∧ n < 4052739537881) :
    Calls Tryd.prog 51 #[.int .i64 n] w fun e w' => e = .returned (.string (num n)) ∧ Below w.heap.size w w' :=
  (implNumeral_any n w ⟨h.1, by omega⟩).mono fun e w' q => ⟨q.1.trans (by rw [gr61_lo (by rw [wt60]; exact h.2)]; rfl), q.2⟩
set_option maxRecDepth 20000 in
set_option maxHeartbeats 400000 in
theorem implNumeralOf_any (n : Int) (w : World) :
    Calls Tryd.prog 38 #[.int .i64 n] w fun e w' => e = .returned (.string (nm (inB n 0 1000000000000) n)) ∧ Below w.heap.size w w' := by
  cases hin : inB n 0 1000000000000
  case' true => have hi := inB_true.1 hin
  all_goals
    go_enter Tryd.func38, Tryd.ntmps38
    go_wp2_with (first | (go_at_call 50; refine (within_any _ _ _ _).mono ?_; rintro e w1 ⟨rfl, rfl⟩) | (go_at_call 51; refine (implNumeral_lo _ _ (by omega)).mono ?_; rintro e w1 ⟨rfl, hb1⟩; have hz1 := hb1.size))
    go_ret
  · exact ⟨ret_str (by simp [nm, num]), by (repeat (first | with_reducible exact Below.refl _ _ | assumption | with_reducible refine Qdrew ?_ | with_reducible refine QdrewN ?_ | ((with_reducible refine Qset ?_ ?_); exact (by ((try simp only [World.size_alloc, World.size_setCell, World.size_drew, size_drewN]); (try dsimp only); omega))) | ((with_reducible refine Qalloc ?_ ?_); exact (by ((try simp only [World.size_alloc, World.size_setCell, World.size_drew, size_drewN]); (try dsimp only); omega))) | refine Qtrans (by assumption) (by ((try simp only [World.size_alloc, World.size_setCell, World.size_drew, size_drewN]); (try dsimp only); omega)) ?_))⟩
  · exact ⟨ret_str (by simp [nm, num]), by (repeat (first | with_reducible exact Below.refl _ _ | assumption | with_reducible refine Qdrew ?_ | with_reducible refine QdrewN ?_ | ((with_reducible refine Qset ?_ ?_); exact (by ((try simp only [World.size_alloc, World.size_setCell, World.size_drew, size_drewN]); (try dsimp only); omega))) | ((with_reducible refine Qalloc ?_ ?_); exact (by ((try simp only [World.size_alloc, World.size_setCell, World.size_drew, size_drewN]); (try dsimp only); omega))) | refine Qtrans (by assumption) (by ((try simp only [World.size_alloc, World.size_setCell, World.size_drew, size_drewN]); (try dsimp only); omega)) ?_))⟩
/-! ### Numbers -/
set_option maxRecDepth 20000 in
set_option maxHeartbeats 1000000 in
theorem implNumberOk_any (s : ByteArray) (w : World) (hsz : s.size ≤ 60) (hok : nokB s = true) :
    Calls Tryd.prog 40 #[.string s] w fun e w' => e = .returned (.int .i64 (smm s)) ∧ Below w.heap.size w w' := by
  have hb : ∀ j (h : j < s.size), ((s[j]'h).toNat : Int) = bt s j := fun j h => bt_eq s j h
  go_enter Tryd.func40, Tryd.ntmps40
  go_wp2_with (first | (go_at_call 39; refine (implNumeralOk_any _ _ (by omega)).mono ?_; rintro e w1 ⟨rfl, rfl⟩) | (go_at_call 84; refine (implWeights_any 60 _ _ rfl (by omega) (by omega)).mono ?_; rintro e wA ⟨gw, cw, rfl, hgw1, hgw2, hwt, hb1⟩))
  go_loopw [4, 12] (fun nv i wr => ∃ k : Nat, k ≤ s.size ∧ i = .int .i64 k ∧ nv = .int .i64 (sm s k) ∧ wA = wr) (fun _ i _ => s.size - (intOf i).toNat)
  case atStart => exact ⟨0, by omega, rfl, rfl, by first | rfl | trivial⟩
  case round =>
    obtain ⟨k, hk, rfl, rfl, rfl⟩ := hrel
    by_cases hlt : k < s.size
    · have hlt' : (k : Int) < (s.size : Int) := by omega
      have hk0 : (0 : Int) ≤ (k : Int) := by omega
      by_cases h49 : bt s k = 49
      · obtain ⟨r, hr⟩ : ∃ r : Nat, s.size - 1 - k = r := ⟨_, rfl⟩
        have hr1 : (s.size : Int) - 1 - (k : Int) = (r : Int) := by omega
        have hr0 : (0 : Int) ≤ (r : Int) := by omega
        have hr2 : (r : Int) < 60 := by omega
        have hr3 : r < 60 := by omega
        have hcell := hwt r hr3
        have hs := sm_yes h49
        rw [hr] at hs
        have hs' := Lib.hid hs
        have hr' := Lib.hid hr
        clear hs hr
        go_wp2
        go_roundw
        case rel => exact ⟨k + 1, by omega, by go_num, by rw [hs'.out], by first | rfl | trivial⟩
        case measure => (simp [intOf]) <;> omega
      · have hs' := Lib.hid (sm_no h49)
        go_wp2
        go_roundw
        case rel => exact ⟨k + 1, by omega, by go_num, by rw [hs'.out], by first | rfl | trivial⟩
        case measure => (simp [intOf]) <;> omega
    · obtain rfl : k = s.size := by omega
      go_wp2
      go_ret
      exact ⟨by simp [smm], hb1⟩
noncomputable def nv (s : ByteArray) : Int := if nokB s then smm s else -1
set_option maxRecDepth 20000 in
set_option maxHeartbeats 400000 in
theorem implNumberOf_any (s : ByteArray) (w : World) (hs' : s.size ≤ 9223372036854775807) :
    Calls Tryd.prog 40 #[.string s] w fun e w' => e = .returned (.int .i64 (nv s)) ∧ Below w.heap.size w w' := by
  cases hn : nokB s
  · go_enter Tryd.func40, Tryd.ntmps40
    go_wp2_with ((go_at_call 39; refine (implNumeralOk_any _ _ hs').mono ?_; rintro e w1 ⟨rfl, rfl⟩))
    go_ret
    exact ⟨ret_int (by simp [nv, hn]), by (repeat (first | with_reducible exact Below.refl _ _ | assumption | with_reducible refine Qdrew ?_ | with_reducible refine QdrewN ?_ | ((with_reducible refine Qset ?_ ?_); exact (by ((try simp only [World.size_alloc, World.size_setCell, World.size_drew, size_drewN]); (try dsimp only); omega))) | ((with_reducible refine Qalloc ?_ ?_); exact (by ((try simp only [World.size_alloc, World.size_setCell, World.size_drew, size_drewN]); (try dsimp only); omega))) | refine Qtrans (by assumption) (by ((try simp only [World.size_alloc, World.size_setCell, World.size_drew, size_drewN]); (try dsimp only); omega)) ?_))⟩
  · exact (implNumberOk_any s w (nok_of hn).1 hn).mono fun e w' h => ⟨h.1.trans (ret_int (by simp [nv, hn])), h.2⟩
/-! ### The shift -/
def shiftS (n : Int) : ByteArray := ⟨(gr 60 n [] ++ [48]).toArray⟩
def sh (n : Int) : Int := if inB n 0 1000000000 then smm (shiftS n) else -1
theorem shift_size (n : Int) : (shiftS n).size ≤ 61 := by have := gr_le 60 n; simp [shiftS, ByteArray.size]; omega
theorem shift_app (n : Int) : num n ++ (⟨#[48]⟩ : ByteArray) = shiftS n := by
  apply ByteArray.ext; simp [shiftS, num]
theorem shift_zero : smm (shiftS 0) = 0 := by
  have e : gr 60 0 [] = [] := by decide +kernel
  have hb : ¬ bt ⟨#[48]⟩ 0 = 49 := by decide
  unfold smm shiftS
  rw [e]
  show sm ⟨#[48]⟩ (0 + 1) = 0
  rw [sm_no hb]; rfl
theorem shift_run (n : Int) (w : World) : (Op.stringOp .add (num n) ⟨#[48]⟩).run Tryd.prog w = .ok (.string (shiftS n)) w := by
  have h := num_size n
  rw [run_string_add_sum w _ _ (by have e : (⟨#[48]⟩ : ByteArray).size = 1 := rfl; omega), shift_app]
theorem specNumeral_n (n : Int) (w : World) (hn : -9223372036854775808 ≤ n ∧ n ≤ 9223372036854775807) :
    Calls Tryd.prog 49 #[.int .i64 n] w fun e w' => e = .returned (.string (num n)) ∧ Below w.heap.size w w' := specNumeral_any n w hn
set_option maxRecDepth 20000 in
set_option maxHeartbeats 400000 in
theorem implShift_any (n : Int) (w : World) :
    Calls Tryd.prog 45 #[.int .i64 n] w fun e w' => e = .returned (.int .i64 (sh n)) ∧ Below w.heap.size w w' := by
  cases hin : inB n 0 1000000000
  · go_enter Tryd.func45, Tryd.ntmps45
    go_wp2_with ((go_at_call 50; refine (within_any _ _ _ _).mono ?_; rintro e w1 ⟨rfl, rfl⟩))
    go_ret
    exact ⟨ret_int (by simp [sh, hin]), by (repeat (first | with_reducible exact Below.refl _ _ | assumption | with_reducible refine Qdrew ?_ | with_reducible refine QdrewN ?_ | ((with_reducible refine Qset ?_ ?_); exact (by ((try simp only [World.size_alloc, World.size_setCell, World.size_drew, size_drewN]); (try dsimp only); omega))) | ((with_reducible refine Qalloc ?_ ?_); exact (by ((try simp only [World.size_alloc, World.size_setCell, World.size_drew, size_drewN]); (try dsimp only); omega))) | refine Qtrans (by assumption) (by ((try simp only [World.size_alloc, World.size_setCell, World.size_drew, size_drewN]); (try dsimp only); omega)) ?_))⟩
  · by_cases h0 : n = 0
    · subst h0
      go_enter Tryd.func45, Tryd.ntmps45
      go_wp2_with ((go_at_call 50; refine (within_any _ _ _ _).mono ?_; rintro e w1 ⟨rfl, rfl⟩))
      go_ret
      exact ⟨ret_int (by simp only [sh]; rw [if_pos hin, shift_zero]), by (repeat (first | with_reducible exact Below.refl _ _ | assumption | with_reducible refine Qdrew ?_ | with_reducible refine QdrewN ?_ | ((with_reducible refine Qset ?_ ?_); exact (by ((try simp only [World.size_alloc, World.size_setCell, World.size_drew, size_drewN]); (try dsimp only); omega))) | ((with_reducible refine Qalloc ?_ ?_); exact (by ((try simp only [World.size_alloc, World.size_setCell, World.size_drew, size_drewN]); (try dsimp only); omega))) | refine Qtrans (by assumption) (by ((try simp only [World.size_alloc, World.size_setCell, World.size_drew, size_drewN]); (try dsimp only); omega)) ?_))⟩
    · have hi := inB_true.1 hin
      have hrun := fun w => shift_run n w
      have hok := Lib.hid (nok_shift (n := n) (by omega) hi.2)
      go_enter Tryd.func45, Tryd.ntmps45
      go_wp2_with (first | (go_at_call 50; refine (within_any _ _ _ _).mono ?_; rintro e w1 ⟨rfl, rfl⟩) | (go_at_call 51; refine (implNumeral_lo _ _ (by omega)).mono ?_; rintro e w1 ⟨rfl, hb1⟩; have hz1 := hb1.size) | (go_at_call 40; refine (implNumberOk_any _ _ hok.out.1 (nokB_true hok.out)).mono ?_; rintro e w2 ⟨rfl, hb2⟩))
      go_ret
      exact ⟨ret_int (by simp [sh, hin, shiftS]), by (repeat (first | with_reducible exact Below.refl _ _ | assumption | with_reducible refine Qdrew ?_ | with_reducible refine QdrewN ?_ | ((with_reducible refine Qset ?_ ?_); exact (by ((try simp only [World.size_alloc, World.size_setCell, World.size_drew, size_drewN]); (try dsimp only); omega))) | ((with_reducible refine Qalloc ?_ ?_); exact (by ((try simp only [World.size_alloc, World.size_setCell, World.size_drew, size_drewN]); (try dsimp only); omega))) | refine Qtrans (by assumption) (by ((try simp only [World.size_alloc, World.size_setCell, World.size_drew, size_drewN]); (try dsimp only); omega)) ?_))⟩
/-! ### The next numeral -/
def nx (m : Int) : ByteArray := if m < wt 60 then num m else ⟨#[]⟩
noncomputable def nxt (s : ByteArray) : ByteArray := if nokB s then nx (wrap64 (smm s + 1)) else ⟨#[]⟩
theorem nx_no {m : Int} (h : ¬ m < wt 60) : nx m = ⟨#[]⟩ := by simp only [nx]; rw [if_neg h]
theorem nx_yes {m : Int} (h : m < wt 60) : nx m = num m := by simp only [nx]; rw [if_pos h]
theorem big_size {n : Int} (h : ¬ n < wt 60) : (⟨(gr 61 n []).toArray⟩ : ByteArray).size = 61 := by
  have := gr61_hi (n := n) (by omega); simpa [ByteArray.size] using this
theorem wrap_range (z : Int) : -9223372036854775808 ≤ wrap64 z ∧ wrap64 z ≤ 9223372036854775807 := by unfold wrap64; omega
set_option maxRecDepth 20000 in
set_option maxHeartbeats 400000 in
theorem implNext_any (s : ByteArray) (w : World) (hs' : s.size ≤ 9223372036854775807) :
    Calls Tryd.prog 41 #[.string s] w fun e w' => e = .returned (.string (nxt s)) ∧ Below w.heap.size w w' := by
  cases hn : nokB s
  · go_enter Tryd.func41, Tryd.ntmps41
    go_wp2_with ((go_at_call 39; refine (implNumeralOk_any _ _ hs').mono ?_; rintro e w1 ⟨rfl, rfl⟩))
    go_ret
    exact ⟨ret_str (by simp [nxt, hn]), by (repeat (first | with_reducible exact Below.refl _ _ | assumption | with_reducible refine Qdrew ?_ | with_reducible refine QdrewN ?_ | ((with_reducible refine Qset ?_ ?_); exact (by ((try simp only [World.size_alloc, World.size_setCell, World.size_drew, size_drewN]); (try dsimp only); omega))) | ((with_reducible refine Qalloc ?_ ?_); exact (by ((try simp only [World.size_alloc, World.size_setCell, World.size_drew, size_drewN]); (try dsimp only); omega))) | refine Qtrans (by assumption) (by ((try simp only [World.size_alloc, World.size_setCell, World.size_drew, size_drewN]); (try dsimp only); omega)) ?_))⟩
  · have h60 := (nok_of hn).1
    obtain ⟨m, hm⟩ : ∃ m, wrap64 (smm s + 1) = m := ⟨_, rfl⟩
    have hr := wrap_range (smm s + 1)
    rw [hm] at hr
    obtain ⟨hr1, hr2⟩ := hr
    by_cases hlt : m < wt 60
    · have hsz := num_size m
      have hlt' : m < 4052739537881 := by rw [wt60] at hlt; exact hlt
      have hc : ¬ (60 : Int) < ((num m).size : Int) := by omega
      go_enter Tryd.func41, Tryd.ntmps41
      go_wp2_with (first | (go_at_call 39; refine (implNumeralOk_any _ _ hs').mono ?_; rintro e w1 ⟨rfl, rfl⟩) | (go_at_call 40; refine (implNumberOk_any _ _ (by omega) hn).mono ?_; rintro e w1 ⟨rfl, hb1⟩; have hz1 := hb1.size) | (go_at_call 51; refine (implNumeral_lo _ _ (by omega)).mono ?_; rintro e w4 ⟨rfl, hb4⟩))
      go_ret
      exact ⟨ret_str (by simp [nxt, nx, hn, hm, hlt]), by (repeat (first | with_reducible exact Below.refl _ _ | assumption | with_reducible refine Qdrew ?_ | with_reducible refine QdrewN ?_ | ((with_reducible refine Qset ?_ ?_); exact (by ((try simp only [World.size_alloc, World.size_setCell, World.size_drew, size_drewN]); (try dsimp only); omega))) | ((with_reducible refine Qalloc ?_ ?_); exact (by ((try simp only [World.size_alloc, World.size_setCell, World.size_drew, size_drewN]); (try dsimp only); omega))) | refine Qtrans (by assumption) (by ((try simp only [World.size_alloc, World.size_setCell, World.size_drew, size_drewN]); (try dsimp only); omega)) ?_))⟩
    · have hsz := big_size hlt
      have hnx := Lib.hid (nx_no hlt)
      go_enter Tryd.func41, Tryd.ntmps41
      go_wp2_with (first | (go_at_call 39; refine (implNumeralOk_any _ _ hs').mono ?_; rintro e w1 ⟨rfl, rfl⟩) | (go_at_call 40; refine (implNumberOk_any _ _ (by omega) hn).mono ?_; rintro e w1 ⟨rfl, hb1⟩; have hz1 := hb1.size) | (go_at_call 51; refine (implNumeral_any _ _ (by omega)).mono ?_; rintro e w4 ⟨rfl, hb4⟩))
      go_ret
      exact ⟨ret_str (by simp [nxt, hn, hm, hnx.out]), by (repeat (first | with_reducible exact Below.refl _ _ | assumption | with_reducible refine Qdrew ?_ | with_reducible refine QdrewN ?_ | ((with_reducible refine Qset ?_ ?_); exact (by ((try simp only [World.size_alloc, World.size_setCell, World.size_drew, size_drewN]); (try dsimp only); omega))) | ((with_reducible refine Qalloc ?_ ?_); exact (by ((try simp only [World.size_alloc, World.size_setCell, World.size_drew, size_drewN]); (try dsimp only); omega))) | refine Qtrans (by assumption) (by ((try simp only [World.size_alloc, World.size_setCell, World.size_drew, size_drewN]); (try dsimp only); omega)) ?_))⟩
end Go.Proofs.YtilbhingfnjppaaDoor
