/- The laws' draws: a cursor over the code, one number after the other. -/
import Derived.Test.YtilbhingfnjppabBase2
import Derived.Maps.AppendAt
set_option linter.unusedSimpArgs false
set_option linter.unusedVariables false
namespace Go.Proofs.Ytilbhingfnjppab
open Go.RowKit
/-- The code's bytes: a slice that lies below B. -/
def RB (B : Nat) (w : World) (x : Option Addr) (n : Nat) : Prop :=
  n ≤ 9223372036854775807 ∧ (n = 0 ∨ ∃ b off, x = some ⟨b, off, none⟩ ∧ b < B ∧ ∀ j, j < n → ∃ z : Int, 0 ≤ z ∧ z ≤ 255 ∧ w.cell? ⟨b, off + j, none⟩ = some (.int .u8 z))
theorem rB_kept {B : Nat} {w w' : World} {x : Option Addr} {n : Nat} (h : RB B w x n) (hc : ∀ b o, b < B → w'.cell? ⟨b, o, none⟩ = w.cell? ⟨b, o, none⟩) : RB B w' x n := by
  refine ⟨h.1, ?_⟩
  rcases h.2 with h | ⟨b, off, e, hb, hj⟩
  · exact .inl h
  · exact .inr ⟨b, off, e, hb, fun j q => by obtain ⟨z, z1, z2, z3⟩ := hj j q; exact ⟨z, z1, z2, (hc _ _ hb).trans z3⟩⟩
theorem rB_below {B : Nat} {w w' : World} {x : Option Addr} {n : Nat} (h : RB B w x n) (hb : Below B w w') : RB B w' x n := rB_kept h (fun b o q => hb.cell (p := ⟨b, o, none⟩) q)
theorem rB_grown {B g : Nat} {w w' : World} {x : Option Addr} {n : Nat} (h : RB B w x n) (hg : w.grownBy w' (some g)) (hB : B ≤ w.heap.size) (hgB : B ≤ g) : RB B w' x n :=
  rB_kept h (fun b o q => hg.cell_far ⟨b, o, none⟩ (by show b < _; omega) (by simp; omega))
theorem rB_mono {B B' : Nat} {w : World} {x : Option Addr} {n : Nat} (h : RB B w x n) (hB : B ≤ B') : RB B' w x n := by
  refine ⟨h.1, ?_⟩
  rcases h.2 with h | ⟨b, off, e, hb, hj⟩
  · exact .inl h
  · exact .inr ⟨b, off, e, by omega, hj⟩
/-- A cursor in block g. -/
def Cur (w : World) (g : Nat) (x : Option Addr) (n cap : Nat) : Prop :=
  ∃ (i : Nat) (h : Int), i ≤ n ∧ w.cell? ⟨g, 0, none⟩ = some (.slice x n cap) ∧ w.cell? ⟨g, 1, none⟩ = some (.int .i64 i) ∧ w.cell? ⟨g, 2, none⟩ = some (.int .i64 h) ∧ (∀ o, w.frozen? ⟨g, o, none⟩ = false) ∧ g < w.heap.size
theorem cur_kept {w w' : World} {g : Nat} {x : Option Addr} {n cap : Nat} (h : Cur w g x n cap) (hs : w.heap.size ≤ w'.heap.size) (hk : w'.heap[g]? = w.heap[g]?) : Cur w' g x n cap := by
  obtain ⟨i, q, h1, h2, h3, h4, h5, h6⟩ := h
  have hc : ∀ o, w'.cell? ⟨g, o, none⟩ = w.cell? ⟨g, o, none⟩ := fun o => World.cell?_of_block hk
  have hf : ∀ o, w'.frozen? ⟨g, o, none⟩ = w.frozen? ⟨g, o, none⟩ := fun o => World.frozen?_of_block hk
  exact ⟨i, q, h1, (hc 0).trans h2, (hc 1).trans h3, (hc 2).trans h4, fun o => (hf o).trans (h5 o), by omega⟩
theorem cur_below {w w' : World} {g : Nat} {x : Option Addr} {n cap B : Nat} (h : Cur w g x n cap) (hb : Below B w w') (hg : g < B) : Cur w' g x n cap := cur_kept h hb.size (hb.block g hg)
theorem cur_far {w w' : World} {g : Nat} {x : Option Addr} {n cap : Nat} {row : Option Nat} (h : Cur w g x n cap) (hg : w.grownBy w' row) (hne : some g ≠ row) : Cur w' g x n cap :=
  cur_kept h hg.size (hg.block g (by obtain ⟨_, _, _, _, _, _, _, q⟩ := h; exact q) hne)
theorem grown_set (w : World) (g o : Nat) (v : Value) : w.grownBy (w.setCell ⟨g, o, none⟩ v) (some g) :=
  ⟨rfl, rfl, rfl, by simp, fun k _ hne => Below.heap_setCell w ⟨g, o, none⟩ v k (by intro e; exact hne (by rw [e]))⟩
theorem grown_drewN {w w' : World} {row : Option Nat} (n : Nat) (h : w.grownBy w' row) : w.grownBy (w'.drewN n) row := ⟨h.os, h.tape, h.output, h.size, h.block⟩
theorem below_of_grown {w w' : World} {B g : Nat} (hg : w.grownBy w' (some g)) (hB : B ≤ w.heap.size) (hgB : B ≤ g) : Below B w w' :=
  (Below.refl B w).grown hg hB (fun k hk => by cases hk; exact hgB)
theorem cur_hash {w : World} {g : Nat} {x : Option Addr} {n cap i : Nat} {h : Int} (V : Int) (m : Nat) (hi : i ≤ n) (c0 : w.cell? ⟨g, 0, none⟩ = some (.slice x n cap)) (c1 : w.cell? ⟨g, 1, none⟩ = some (.int .i64 i)) (c2 : w.cell? ⟨g, 2, none⟩ = some (.int .i64 h)) (hf : ∀ o, w.frozen? ⟨g, o, none⟩ = false) (hg : g < w.heap.size) :
    Cur ((w.setCell ⟨g, 2, none⟩ (.int .i64 V)).drewN m) g x n cap ∧ w.grownBy ((w.setCell ⟨g, 2, none⟩ (.int .i64 V)).drewN m) (some g) := by
  refine ⟨⟨i, V, hi, by simp [go_sem, *], by simp [go_sem, *], by simp [go_sem, csame, *], fun o => by simp [go_sem, *], by simpa using hg⟩, grown_drewN m (grown_set w g 2 _)⟩
theorem cur_next {w : World} {g : Nat} {x : Option Addr} {n cap i : Nat} {h : Int} (V J : Int) (m : Nat) (hJ : J = ((i + 1 : Nat) : Int)) (hi : i + 1 ≤ n) (c0 : w.cell? ⟨g, 0, none⟩ = some (.slice x n cap)) (c1 : w.cell? ⟨g, 1, none⟩ = some (.int .i64 i)) (c2 : w.cell? ⟨g, 2, none⟩ = some (.int .i64 h)) (hf : ∀ o, w.frozen? ⟨g, o, none⟩ = false) (hg : g < w.heap.size) :
    Cur (((w.setCell ⟨g, 2, none⟩ (.int .i64 V)).drewN m).setCell ⟨g, 1, none⟩ (.int .i64 J)) g x n cap ∧ w.grownBy (((w.setCell ⟨g, 2, none⟩ (.int .i64 V)).drewN m).setCell ⟨g, 1, none⟩ (.int .i64 J)) (some g) := by
  subst hJ
  refine ⟨⟨i + 1, V, hi, by simp [go_sem, *], by simp [go_sem, csame, *], by simp [go_sem, csame, *], fun o => by simp [go_sem, *], by simpa using hg⟩, (grown_drewN m (grown_set w g 2 _)).trans (grown_set _ g 1 _)⟩
/-- The lowest eight bits. -/
theorem and255 (y : Int) : 0 ≤ bits .and .i64 y 255 ∧ bits .and .i64 y 255 ≤ 255 := by
  have h : (BitVec.ofInt 64 y &&& BitVec.ofInt 64 255).toNat ≤ 255 := by
    rw [BitVec.toNat_and]
    exact Nat.le_trans Nat.and_le_right (by decide)
  have e : bits .and .i64 y 255 = IntKind.i64.wrap ((BitVec.ofInt 64 y &&& BitVec.ofInt 64 255).toNat : Int) := rfl
  rw [e, IntWalk.i64_in _ (by omega)]
  omega
set_option maxRecDepth 20000 in
set_option maxHeartbeats 1000000 in
theorem l01Byte_any (B g : Nat) (x : Option Addr) (n cap : Nat) (w : World) (hB : B ≤ g) (hr : RB B w x n) (hc : Cur w g x n cap) :
    Calls Try.prog 99 #[.pointer (some ⟨g, 0, none⟩)] w fun e w' => ∃ v : Int, e = .returned (.int .i64 v) ∧ (0 ≤ v ∧ v ≤ 255) ∧ Cur w' g x n cap ∧ w.grownBy w' (some g) := by
  obtain ⟨i, h, hin, c0, c1, c2, hf, hg⟩ := hc
  have hf1 := hf 1
  have hf2 := hf 2
  have hn := hr.1
  by_cases hlt : i < n
  · obtain ⟨b, off, rfl, hb, hz⟩ : ∃ b off, x = some ⟨b, off, none⟩ ∧ b < B ∧ ∃ z : Int, 0 ≤ z ∧ z ≤ 255 ∧ w.cell? ⟨b, off + i, none⟩ = some (.int .u8 z) := by
      rcases hr.2 with h0 | ⟨b, off, e, hb, hj⟩
      · omega
      · exact ⟨b, off, e, hb, hj i hlt⟩
    obtain ⟨z, z1, z2, z3⟩ := hz
    have hne : b ≠ g := by omega
    have hi0 : (0 : Int) ≤ (i : Int) := by omega
    have hi1 : (i : Int) < (n : Int) := by omega
    have hi2 : (i : Int) ≤ 9223372036854775806 := by omega
    have hfr := Lib.hid hf
    clear hr hf hn
    go_enter Try.func99, Try.ntmps99
    go_wp2_with fail
    go_quiet (fail)
    go_wp2_with fail
    go_quiet (fail)
    go_wp2_with fail
    go_quiet (fail)
    go_wp2_with fail
    go_ret
    have hk := fun m => cur_next (w := w) (x := some ⟨b, off, none⟩) (n := n) (cap := cap) (wrap64 (wrap64 (h * 6364136223846793005) + 1442695040888963407)) (i + 1) m (by omega) hlt c0 c1 c2 hfr.out hg
    exact ⟨_, rfl, and255 _, (hk _).1, (hk _).2⟩
  · have hge : ¬ (i : Int) < (n : Int) := by omega
    have hfr := Lib.hid hf
    clear hr hf hn
    go_enter Try.func99, Try.ntmps99
    go_wp2_with fail
    go_quiet (fail)
    go_wp2_with fail
    go_quiet (fail)
    go_wp2_with fail
    go_ret
    have hk := fun m => cur_hash (w := w) (x := x) (n := n) (cap := cap) (wrap64 (wrap64 (h * 6364136223846793005) + 1442695040888963407)) m hin c0 c1 c2 hfr.out hg
    refine ⟨_, rfl, and255 _, ?_, ?_⟩
    · rw [World.drewN_drewN]; exact (hk _).1
    · rw [World.drewN_drewN]; exact (hk _).2
set_option maxRecDepth 20000 in
set_option maxHeartbeats 1000000 in
theorem l01Below_any (B g : Nat) (x : Option Addr) (n cap : Nat) (k : Int) (hk1 : 1 ≤ k) (hk2 : k ≤ 256) (w : World) (hB : B ≤ g) (hr : RB B w x n) (hc : Cur w g x n cap) :
    Calls Try.prog 61 #[.pointer (some ⟨g, 0, none⟩), .int .i64 k] w fun e w' => ∃ v : Int, e = .returned (.int .i64 v) ∧ (0 ≤ v ∧ v < k) ∧ Cur w' g x n cap ∧ w.grownBy w' (some g) := by
  have hk0 : ¬ k ≤ 0 := by omega
  have hkz : ¬ k = 0 := by omega
  have hC := l01Byte_any B g x n cap w hB hr hc
  clear hr hc
  go_enter Try.func61, Try.ntmps61
  go_wp2_with (go_at_call 99; refine hC.mono ?_; rintro e w1 ⟨v, rfl, ⟨hv0, hv1⟩, hc1, hg1⟩)
  go_ret
  have e1 : v.tmod k = v % k := Int.tmod_eq_emod_of_nonneg hv0
  have e2 := Int.emod_nonneg v hkz
  have e3 := Int.emod_lt_of_pos v (show 0 < k by omega)
  exact ⟨v % k, by first | rfl | (rw [← e1]; rfl), ⟨e2, e3⟩, hc1, hg1⟩
set_option maxRecDepth 20000 in
set_option maxHeartbeats 1000000 in
theorem l01New_any (B : Nat) (x : Option Addr) (n cap : Nat) (w : World) (hr : RB B w x n) :
    Calls Try.prog 98 #[.slice x n cap] w fun e w' => ∃ g : Nat, e = .returned (.pointer (some ⟨g, 0, none⟩)) ∧ w.heap.size ≤ g ∧ Cur w' g x n cap ∧ Below w.heap.size w w' := by
  have hn := hr.1
  have hn' : (n : Int) ≤ 9223372036854775807 := by omega
  go_enter Try.func98, Try.ntmps98
  go_wp2_with fail
  go_loopw [3, 4] (fun h i wr => ∃ (k : Nat) (H : Int), k ≤ n ∧ i = .int .i64 k ∧ h = .int .i64 H ∧ w = wr) (fun _ i _ => n - (intOf i).toNat)
  case atStart => exact ⟨0, _, by omega, rfl, rfl, by first | rfl | trivial⟩
  case round =>
    obtain ⟨k, H, hk, rfl, rfl, rfl⟩ := hrel
    by_cases hlt : k < n
    · have hk1 : (k : Int) < (n : Int) := by omega
      have hk0 : (0 : Int) ≤ (k : Int) := by omega
      by_cases h4 : (k : Int) < 4000
      · obtain ⟨b, off, rfl, hb, hz⟩ : ∃ b off, x = some ⟨b, off, none⟩ ∧ b < B ∧ ∃ z : Int, 0 ≤ z ∧ z ≤ 255 ∧ w.cell? ⟨b, off + k, none⟩ = some (.int .u8 z) := by
          rcases hr.2 with h0 | ⟨b, off, e, hb, hj⟩
          · omega
          · exact ⟨b, off, e, hb, hj k hlt⟩
        obtain ⟨z, z1, z2, z3⟩ := hz
        clear hr hn
        go_wp2_with fail
        go_roundw
        case rel => exact ⟨k + 1, _, by omega, by go_num, rfl, by first | rfl | trivial⟩
        case measure => (simp [intOf]) <;> omega
      · clear hr hn
        go_wp2_with fail
        go_ret
        exact ⟨_, rfl, by omega, ⟨0, H, by omega, by simp [go_sem], by simp [go_sem], by simp [go_sem], fun o => by simp [go_sem], by simp⟩, by (repeat (first | with_reducible exact Below.refl _ _ | assumption | with_reducible refine Qdrew ?_ | with_reducible refine QdrewN ?_ | ((with_reducible refine Qset ?_ ?_); exact (by ((try simp only [World.size_alloc, World.size_setCell, World.size_drew, size_drewN]); (try dsimp only); omega))) | ((with_reducible refine Qalloc ?_ ?_); exact (by ((try simp only [World.size_alloc, World.size_setCell, World.size_drew, size_drewN]); (try dsimp only); omega))) | refine Qtrans (by assumption) (by ((try simp only [World.size_alloc, World.size_setCell, World.size_drew, size_drewN]); (try dsimp only); omega)) ?_))⟩
    · have hk1 : ¬ (k : Int) < (n : Int) := by omega
      clear hr hn
      go_wp2_with fail
      go_ret
      exact ⟨_, rfl, by omega, ⟨0, H, by omega, by simp [go_sem], by simp [go_sem], by simp [go_sem], fun o => by simp [go_sem], by simp⟩, by (repeat (first | with_reducible exact Below.refl _ _ | assumption | with_reducible refine Qdrew ?_ | with_reducible refine QdrewN ?_ | ((with_reducible refine Qset ?_ ?_); exact (by ((try simp only [World.size_alloc, World.size_setCell, World.size_drew, size_drewN]); (try dsimp only); omega))) | ((with_reducible refine Qalloc ?_ ?_); exact (by ((try simp only [World.size_alloc, World.size_setCell, World.size_drew, size_drewN]); (try dsimp only); omega))) | refine Qtrans (by assumption) (by ((try simp only [World.size_alloc, World.size_setCell, World.size_drew, size_drewN]); (try dsimp only); omega)) ?_))⟩
set_option maxRecDepth 20000 in
set_option maxHeartbeats 1000000 in
theorem l31New_any (B : Nat) (x : Option Addr) (n cap : Nat) (m : Nat) (hm : m ≤ 1000) (w : World) (hB : B ≤ w.heap.size) (hr : RB B w x n) :
    Calls Try.prog 59 #[.slice x n cap, .int .i64 m] w fun e w' => ∃ g : Nat, e = .returned (.pointer (some ⟨g, 0, none⟩)) ∧ w.heap.size ≤ g ∧ Cur w' g x n cap ∧ Below w.heap.size w w' := by
  have hm' : (m : Int) ≤ 1000 := by omega
  go_enter Try.func59, Try.ntmps59
  go_wp2_with (go_at_call 98; refine (l01New_any B x n cap w hr).mono ?_; rintro e w1 ⟨g, rfl, hg, hc1, hb1⟩)
  have hz1 := hb1.size
  have hr1 := rB_below hr (hb1.mono hB)
  go_loopw [6] (fun i wr => ∃ k : Nat, k ≤ m ∧ i = .int .i64 k ∧ Cur wr g x n cap ∧ w1.grownBy wr (some g)) (fun i _ => m - (intOf i).toNat)
  case atStart => exact ⟨0, by omega, rfl, hc1, World.grownBy.refl _ _⟩
  case round =>
    obtain ⟨k, hk, rfl, hc2, hg2⟩ := hrel
    by_cases hlt : k < m
    · have hk1 : (k : Int) < (m : Int) := by omega
      have hk0 : (0 : Int) ≤ (k : Int) := by omega
      have hC := l01Byte_any B g x n cap wr (by omega) (rB_grown hr1 hg2 (by omega) (by omega)) hc2
      clear hr hc1 hr1
      go_wp2_with (go_at_call 99; refine hC.mono ?_; rintro e w2 ⟨v, rfl, hv, hc3, hg3⟩)
      go_roundw
      case rel => exact ⟨k + 1, by omega, by go_num, hc3, hg2.trans hg3⟩
      case measure => (simp [intOf]) <;> omega
    · obtain rfl : k = m := by omega
      go_wp2_with fail
      go_ret
      exact ⟨g, rfl, hg, hc2, hb1.grown hg2 hz1 (fun k hk => by cases hk; exact hg)⟩
set_option maxRecDepth 20000 in
set_option maxHeartbeats 1000000 in
theorem MakeSize_any (B : Nat) (x : Option Addr) (n cap : Nat) (m : Nat) (hm : m ≤ 1000) (lo hi : Int) (h1 : -1000 ≤ lo) (h2 : lo ≤ hi) (h3 : hi ≤ 1000) (w : World) (hB : B ≤ w.heap.size) (hr : RB B w x n) :
    Calls Try.prog 21 #[.slice x n cap, .int .i64 m, .int .i64 lo, .int .i64 hi] w fun e w' => ∃ v : Int, e = .returned (.int .i64 v) ∧ (lo ≤ v ∧ v ≤ hi) ∧ Below w.heap.size w w' := by
  go_enter Try.func21, Try.ntmps21
  go_wp2_with fail
  go_loopw [9, 10] (fun s k wr => ∃ j : Nat, s = .int .i64 (j + 1) ∧ k = .int .i64 (lo + j) ∧ lo + j ≤ hi ∧ j ≤ 99 ∧ w = wr) (fun _ k _ => (hi - intOf k).toNat)
  case atStart => exact ⟨0, by go_num, by go_num, by omega, by omega, by first | rfl | trivial⟩
  case round =>
    obtain ⟨j, rfl, rfl, hj, h99, rfl⟩ := hrel
    by_cases hlt : lo + (j : Int) < hi ∧ (j : Int) + 1 < 100
    · obtain ⟨q1, q2⟩ := hlt
      go_wp2_with fail
      go_roundw
      case rel => exact ⟨j + 1, by go_num, by go_num, by omega, by omega, by first | rfl | trivial⟩
      case measure => (simp [intOf]) <;> omega
    · have hex : (¬ lo + (j : Int) < hi) ∨ (lo + (j : Int) < hi ∧ ¬ (j : Int) + 1 < 100) := by omega
      clear hlt
      rcases hex with q1 | ⟨q1, q2⟩
      all_goals
        go_wp2_with (first | (go_at_call 59; refine (l31New_any B x n cap m hm w hB hr).mono ?_; rintro e w1 ⟨g, rfl, hg, hc1, hb1⟩; have hz1 := hb1.size; have hr1 := rB_below hr (hb1.mono hB)) | (go_at_call 61; refine (l01Below_any B g x n cap _ (by omega) (by omega) w1 (by omega) hr1 hc1).mono ?_; rintro e w2 ⟨v, rfl, ⟨hv0, hv1⟩, hc2, hg2⟩))
        have hb2 := hb1.grown hg2 hz1 (fun k hk => by cases hk; exact hg)
        go_loopw [11, 12] (fun o k wr => ∃ r : Int, 0 ≤ r ∧ r ≤ v ∧ o = .int .i64 (lo + (v - r)) ∧ k = .int .i64 r ∧ w2 = wr) (fun _ k _ => (intOf k).toNat)
        case atStart => exact ⟨v, by omega, by omega, by congr 1; omega, rfl, by first | rfl | trivial⟩
        case round =>
          obtain ⟨r, hr0, hrv, rfl, rfl, rfl⟩ := hrel
          by_cases hp : 0 < r
          · go_wp2_with fail
            go_roundw
            case rel => exact ⟨r - 1, by omega, by omega, by congr 1; omega, by go_num, by first | rfl | trivial⟩
            case measure => (simp [intOf]) <;> omega
          · obtain rfl : r = 0 := by omega
            go_wp2_with fail
            go_ret
            exact ⟨_, rfl, by omega, hb2⟩
end Go.Proofs.Ytilbhingfnjppab
