/- Several texts in one, in their order: Cur Subst DrA. -/
import Derived.Test.YtilbhingfnjppabBase2
import Derived.Maps.AppendAt
import Derived.Test.YtilbhingfnjppabWordsA
import Derived.Test.YtilbhingfnjppabMFra
import Derived.Deep.Onto
set_option linter.unusedSimpArgs false
set_option linter.unusedVariables false
namespace Go.Proofs.Ytilbhingfnjppab
open Go.RowKit
/-- The code's bytes: a slice that lies below B. -/
def RB (B : Nat) (w : World) (x : Option Addr) (n : Nat) : Prop :=
  n ≤ 9223372036854775807 ∧ (n = 0 ∨ ∃ b off, x = some ⟨b, off, none⟩ ∧ b < B ∧ ∀ j, j < n → ∃ z : Int, 0 ≤ z ∧ z ≤ 255 ∧ w.cell? ⟨b, off + j, none⟩ = some (.int .u8 z))
theorem rB_kept {B : Nat} {w w' : World} {x : Option Addr} {n : Nat} (h : RB B w x n) (hc : ∀ b o, b < B → w'.cell? ⟨b, o, none⟩ = w.cell? ⟨b, o, none⟩) : RB B w' x n := by
  refine ⟨h.1, ?_⟩
  rcases h.2 with h | ⟨b, off, e, hb, hj⟩
  · exact .inl h
  · exact .inr ⟨b, off, e, hb, fun j q => by obtain ⟨z, z1, z2, z3⟩ := hj j q; exact ⟨z, z1, z2, (hc _ _ hb).trans z3⟩⟩
theorem rB_below {B : Nat} {w w' : World} {x : Option Addr} {n : Nat} (h : RB B w x n) (hb : Below B w w') : RB B w' x n := rB_kept h (fun b o q => hb.cell (p := ⟨b, o, none⟩) q)
theorem rB_grown {B g : Nat} {w w' : World} {x : Option Addr} {n : Nat} (h : RB B w x n) (hg : w.grownBy w' (some g)) (hB : B ≤ w.heap.size) (hgB : B ≤ g) : RB B w' x n :=
  rB_kept h (fun b o q => hg.cell_far ⟨b, o, none⟩ (by show b < _; omega) (by simp; omega))
theorem rB_mono {B B' : Nat} {w : World} {x : Option Addr} {n : Nat} (h : RB B w x n) (hB : B ≤ B') : RB B' w x n := by
  refine ⟨h.1, ?_⟩
  rcases h.2 with h | ⟨b, off, e, hb, hj⟩
  · exact .inl h
  · exact .inr ⟨b, off, e, by omega, hj⟩
/-- A cursor in block g. -/
def Cur (w : World) (g : Nat) (x : Option Addr) (n cap : Nat) : Prop :=
  ∃ (i : Nat) (h : Int), i ≤ n ∧ w.cell? ⟨g, 0, none⟩ = some (.slice x n cap) ∧ w.cell? ⟨g, 1, none⟩ = some (.int .i64 i) ∧ w.cell? ⟨g, 2, none⟩ = some (.int .i64 h) ∧ (∀ o, w.frozen? ⟨g, o, none⟩ = false) ∧ g < w.heap.size
theorem cur_kept {w w' : World} {g : Nat} {x : Option Addr} {n cap : Nat} (h : Cur w g x n cap) (hs : w.heap.size ≤ w'.heap.size) (hk : w'.heap[g]? = w.heap[g]?) : Cur w' g x n cap := by
  obtain ⟨i, q, h1, h2, h3, h4, h5, h6⟩ := h
  have hc : ∀ o, w'.cell? ⟨g, o, none⟩ = w.cell? ⟨g, o, none⟩ := fun o => World.cell?_of_block hk
  have hf : ∀ o, w'.frozen? ⟨g, o, none⟩ = w.frozen? ⟨g, o, none⟩ := fun o => World.frozen?_of_block hk
  exact ⟨i, q, h1, (hc 0).trans h2, (hc 1).trans h3, (hc 2).trans h4, fun o => (hf o).trans (h5 o), by omega⟩
theorem cur_below {w w' : World} {g : Nat} {x : Option Addr} {n cap B : Nat} (h : Cur w g x n cap) (hb : Below B w w') (hg : g < B) : Cur w' g x n cap := cur_kept h hb.size (hb.block g hg)
theorem cur_far {w w' : World} {g : Nat} {x : Option Addr} {n cap : Nat} {row : Option Nat} (h : Cur w g x n cap) (hg : w.grownBy w' row) (hne : some g ≠ row) : Cur w' g x n cap :=
  cur_kept h hg.size (hg.block g (by obtain ⟨_, _, _, _, _, _, _, q⟩ := h; exact q) hne)
theorem grown_set (w : World) (g o : Nat) (v : Value) : w.grownBy (w.setCell ⟨g, o, none⟩ v) (some g) :=
  ⟨rfl, rfl, rfl, by simp, fun k _ hne => Below.heap_setCell w ⟨g, o, none⟩ v k (by intro e; exact hne (by rw [e]))⟩
theorem grown_drewN {w w' : World} {row : Option Nat} (n : Nat) (h : w.grownBy w' row) : w.grownBy (w'.drewN n) row := ⟨h.os, h.tape, h.output, h.size, h.block⟩
theorem below_of_grown {w w' : World} {B g : Nat} (hg : w.grownBy w' (some g)) (hB : B ≤ w.heap.size) (hgB : B ≤ g) : Below B w w' :=
  (Below.refl B w).grown hg hB (fun k hk => by cases hk; exact hgB)
theorem cur_hash {w : World} {g : Nat} {x : Option Addr} {n cap i : Nat} {h : Int} (V : Int) (m : Nat) (hi : i ≤ n) (c0 : w.cell? ⟨g, 0, none⟩ = some (.slice x n cap)) (c1 : w.cell? ⟨g, 1, none⟩ = some (.int .i64 i)) (c2 : w.cell? ⟨g, 2, none⟩ = some (.int .i64 h)) (hf : ∀ o, w.frozen? ⟨g, o, none⟩ = false) (hg : g < w.heap.size) :
    Cur ((w.setCell ⟨g, 2, none⟩ (.int .i64 V)).drewN m) g x n cap ∧ w.grownBy ((w.setCell ⟨g, 2, none⟩ (.int .i64 V)).drewN m) (some g) := by
  refine ⟨⟨i, V, hi, by simp [go_sem, *], by simp [go_sem, *], by simp [go_sem, csame, *], fun o => by simp [go_sem, *], by simpa using hg⟩, grown_drewN m (grown_set w g 2 _)⟩
theorem cur_next {w : World} {g : Nat} {x : Option Addr} {n cap i : Nat} {h : Int} (V J : Int) (m : Nat) (hJ : J = ((i + 1 : Nat) : Int)) (hi : i + 1 ≤ n) (c0 : w.cell? ⟨g, 0, none⟩ = some (.slice x n cap)) (c1 : w.cell? ⟨g, 1, none⟩ = some (.int .i64 i)) (c2 : w.cell? ⟨g, 2, none⟩ = some (.int .i64 h)) (hf : ∀ o, w.frozen? ⟨g, o, none⟩ = false) (hg : g < w.heap.size) :
    Cur (((w.setCell ⟨g, 2, none⟩ (.int .i64 V)).drewN m).setCell ⟨g, 1, none⟩ (.int .i64 J)) g x n cap ∧ w.grownBy (((w.setCell ⟨g, 2, none⟩ (.int .i64 V)).drewN m).setCell ⟨g, 1, none⟩ (.int .i64 J)) (some g) := by
  subst hJ
  refine ⟨⟨i + 1, V, hi, by simp [go_sem, *], by simp [go_sem, csame, *], by simp [go_sem, csame, *], fun o => by simp [go_sem, *], by simpa using hg⟩, (grown_drewN m (grown_set w g 2 _)).trans (grown_set _ g 1 _)⟩
/-- The lowest eight bits. -/
theorem and255 (y : Int) : 0 ≤ bits .and .i64 y 255 ∧ bits .and .i64 y 255 ≤ 255 := by
  have h : (BitVec.ofInt 64 y &&& BitVec.ofInt 64 255).toNat ≤ 255 := by
    rw [BitVec.toNat_and]
    exact Nat.le_trans Nat.and_le_right (by decide)
  have e : bits .and .i64 y 255 = IntKind.i64.wrap ((BitVec.ofInt 64 y &&& BitVec.ofInt 64 255).toNat : Int) := rfl
  rw [e, IntWalk.i64_in _ (by omega)]
  omega
set_option maxRecDepth 20000 in
set_option maxHeartbeats 1000000 in
theorem l01Byte_any (B g : Nat) (x : Option Addr) (n cap : Nat) (w : World) (hB : B ≤ g) (hr : RB B w x n) (hc : Cur w g x n cap) :
    Calls Try.prog 99 #[.pointer (some ⟨g, 0, none⟩)] w fun e w' => ∃ v : Int, e = .returned (.int .i64 v) ∧ (0 ≤ v ∧ v ≤ 255) ∧ Cur w' g x n cap ∧ w.grownBy w' (some g) := by
  obtain ⟨i, h, hin, c0, c1, c2, hf, hg⟩ := hc
  have hf1 := hf 1
  have hf2 := hf 2
  have hn := hr.1
  by_cases hlt : i < n
  · obtain ⟨b, off, rfl, hb, hz⟩ : ∃ b off, x = some ⟨b, off, none⟩ ∧ b < B ∧ ∃ z : Int, 0 ≤ z ∧ z ≤ 255 ∧ w.cell? ⟨b, off + i, none⟩ = some (.int .u8 z) := by
      rcases hr.2 with h0 | ⟨b, off, e, hb, hj⟩
      · omega
      · exact ⟨b, off, e, hb, hj i hlt⟩
    obtain ⟨z, z1, z2, z3⟩ := hz
    have hne : b ≠ g := by omega
    have hi0 : (0 : Int) ≤ (i : Int) := by omega
    have hi1 : (i : Int) < (n : Int) := by omega
    have hi2 : (i : Int) ≤ 9223372036854775806 := by omega
    have hfr := Lib.hid hf
    clear hr hf hn
    go_enter Try.func99, Try.ntmps99
    go_wp2_with fail
    go_quiet (fail)
    go_wp2_with fail
    go_quiet (fail)
    go_wp2_with fail
    go_quiet (fail)
    go_wp2_with fail
    go_ret
    have hk := fun m => cur_next (w := w) (x := some ⟨b, off, none⟩) (n := n) (cap := cap) (wrap64 (wrap64 (h * 6364136223846793005) + 1442695040888963407)) (i + 1) m (by omega) hlt c0 c1 c2 hfr.out hg
    exact ⟨_, rfl, and255 _, (hk _).1, (hk _).2⟩
  · have hge : ¬ (i : Int) < (n : Int) := by omega
    have hfr := Lib.hid hf
    clear hr hf hn
    go_enter Try.func99, Try.ntmps99
    go_wp2_with fail
    go_quiet (fail)
    go_wp2_with fail
    go_quiet (fail)
    go_wp2_with fail
    go_ret
    have hk := fun m => cur_hash (w := w) (x := x) (n := n) (cap := cap) (wrap64 (wrap64 (h * 6364136223846793005) + 1442695040888963407)) m hin c0 c1 c2 hfr.out hg
    refine ⟨_, rfl, and255 _, ?_, ?_⟩
    · rw [World.drewN_drewN]; exact (hk _).1
    · rw [World.drewN_drewN]; exact (hk _).2
set_option maxRecDepth 20000 in
set_option maxHeartbeats 1000000 in
theorem l01Below_any (B g : Nat) (x : Option Addr) (n cap : Nat) (k : Int) (hk1 : 1 ≤ k) (hk2 : k ≤ 256) (w : World) (hB : B ≤ g) (hr : RB B w x n) (hc : Cur w g x n cap) :
    Calls Try.prog 61 #[.pointer (some ⟨g, 0, none⟩), .int .i64 k] w fun e w' => ∃ v : Int, e = .returned (.int .i64 v) ∧ (0 ≤ v ∧ v < k) ∧ Cur w' g x n cap ∧ w.grownBy w' (some g) := by
  have hk0 : ¬ k ≤ 0 := by omega
  have hkz : ¬ k = 0 := by omega
  have hC := l01Byte_any B g x n cap w hB hr hc
  clear hr hc
  go_enter Try.func61, Try.ntmps61
  go_wp2_with (go_at_call 99; refine hC.mono ?_; rintro e w1 ⟨v, rfl, ⟨hv0, hv1⟩, hc1, hg1⟩)
  go_ret
  have e1 : v.tmod k = v % k := Int.tmod_eq_emod_of_nonneg hv0
  have e2 := Int.emod_nonneg v hkz
  have e3 := Int.emod_lt_of_pos v (show 0 < k by omega)
  exact ⟨v % k, by first | rfl | (rw [← e1]; rfl), ⟨e2, e3⟩, hc1, hg1⟩
set_option maxRecDepth 20000 in
set_option maxHeartbeats 1000000 in
theorem l01New_any (B : Nat) (x : Option Addr) (n cap : Nat) (w : World) (hr : RB B w x n) :
    Calls Try.prog 98 #[.slice x n cap] w fun e w' => ∃ g : Nat, e = .returned (.pointer (some ⟨g, 0, none⟩)) ∧ w.heap.size ≤ g ∧ Cur w' g x n cap ∧ Below w.heap.size w w' := by
  have hn := hr.1
  have hn' : (n : Int) ≤ 9223372036854775807 := by omega
  go_enter Try.func98, Try.ntmps98
  go_wp2_with fail
  go_loopw [3, 4] (fun h i wr => ∃ (k : Nat) (H : Int), k ≤ n ∧ i = .int .i64 k ∧ h = .int .i64 H ∧ w = wr) (fun _ i _ => n - (intOf i).toNat)
  case atStart => exact ⟨0, _, by omega, rfl, rfl, by first | rfl | trivial⟩
  case round =>
    obtain ⟨k, H, hk, rfl, rfl, rfl⟩ := hrel
    by_cases hlt : k < n
    · have hk1 : (k : Int) < (n : Int) := by omega
      have hk0 : (0 : Int) ≤ (k : Int) := by omega
      by_cases h4 : (k : Int) < 4000
      · obtain ⟨b, off, rfl, hb, hz⟩ : ∃ b off, x = some ⟨b, off, none⟩ ∧ b < B ∧ ∃ z : Int, 0 ≤ z ∧ z ≤ 255 ∧ w.cell? ⟨b, off + k, none⟩ = some (.int .u8 z) := by
          rcases hr.2 with h0 | ⟨b, off, e, hb, hj⟩
          · omega
          · exact ⟨b, off, e, hb, hj k hlt⟩
        obtain ⟨z, z1, z2, z3⟩ := hz
        clear hr hn
        go_wp2_with fail
        go_roundw
        case rel => exact ⟨k + 1, _, by omega, by go_num, rfl, by first | rfl | trivial⟩
        case measure => (simp [intOf]) <;> omega
      · clear hr hn
        go_wp2_with fail
        go_ret
        exact ⟨_, rfl, by omega, ⟨0, H, by omega, by simp [go_sem], by simp [go_sem], by simp [go_sem], fun o => by simp [go_sem], by simp⟩, by (repeat (first | with_reducible exact Below.refl _ _ | assumption | with_reducible refine Qdrew ?_ | with_reducible refine QdrewN ?_ | ((with_reducible refine Qset ?_ ?_); exact (by ((try simp only [World.size_alloc, World.size_setCell, World.size_drew, size_drewN]); (try dsimp only); omega))) | ((with_reducible refine Qalloc ?_ ?_); exact (by ((try simp only [World.size_alloc, World.size_setCell, World.size_drew, size_drewN]); (try dsimp only); omega))) | refine Qtrans (by assumption) (by ((try simp only [World.size_alloc, World.size_setCell, World.size_drew, size_drewN]); (try dsimp only); omega)) ?_))⟩
    · have hk1 : ¬ (k : Int) < (n : Int) := by omega
      clear hr hn
      go_wp2_with fail
      go_ret
      exact ⟨_, rfl, by omega, ⟨0, H, by omega, by simp [go_sem], by simp [go_sem], by simp [go_sem], fun o => by simp [go_sem], by simp⟩, by (repeat (first | with_reducible exact Below.refl _ _ | assumption | with_reducible refine Qdrew ?_ | with_reducible refine QdrewN ?_ | ((with_reducible refine Qset ?_ ?_); exact (by ((try simp only [World.size_alloc, World.size_setCell, World.size_drew, size_drewN]); (try dsimp only); omega))) | ((with_reducible refine Qalloc ?_ ?_); exact (by ((try simp only [World.size_alloc, World.size_setCell, World.size_drew, size_drewN]); (try dsimp only); omega))) | refine Qtrans (by assumption) (by ((try simp only [World.size_alloc, World.size_setCell, World.size_drew, size_drewN]); (try dsimp only); omega)) ?_))⟩
set_option maxRecDepth 20000 in
set_option maxHeartbeats 1000000 in
theorem l31New_any (B : Nat) (x : Option Addr) (n cap : Nat) (m : Nat) (hm : m ≤ 1000) (w : World) (hB : B ≤ w.heap.size) (hr : RB B w x n) :
    Calls Try.prog 59 #[.slice x n cap, .int .i64 m] w fun e w' => ∃ g : Nat, e = .returned (.pointer (some ⟨g, 0, none⟩)) ∧ w.heap.size ≤ g ∧ Cur w' g x n cap ∧ Below w.heap.size w w' := by
  have hm' : (m : Int) ≤ 1000 := by omega
  go_enter Try.func59, Try.ntmps59
  go_wp2_with (go_at_call 98; refine (l01New_any B x n cap w hr).mono ?_; rintro e w1 ⟨g, rfl, hg, hc1, hb1⟩)
  have hz1 := hb1.size
  have hr1 := rB_below hr (hb1.mono hB)
  go_loopw [6] (fun i wr => ∃ k : Nat, k ≤ m ∧ i = .int .i64 k ∧ Cur wr g x n cap ∧ w1.grownBy wr (some g)) (fun i _ => m - (intOf i).toNat)
  case atStart => exact ⟨0, by omega, rfl, hc1, World.grownBy.refl _ _⟩
  case round =>
    obtain ⟨k, hk, rfl, hc2, hg2⟩ := hrel
    by_cases hlt : k < m
    · have hk1 : (k : Int) < (m : Int) := by omega
      have hk0 : (0 : Int) ≤ (k : Int) := by omega
      have hC := l01Byte_any B g x n cap wr (by omega) (rB_grown hr1 hg2 (by omega) (by omega)) hc2
      clear hr hc1 hr1
      go_wp2_with (go_at_call 99; refine hC.mono ?_; rintro e w2 ⟨v, rfl, hv, hc3, hg3⟩)
      go_roundw
      case rel => exact ⟨k + 1, by omega, by go_num, hc3, hg2.trans hg3⟩
      case measure => (simp [intOf]) <;> omega
    · obtain rfl : k = m := by omega
      go_wp2_with fail
      go_ret
      exact ⟨g, rfl, hg, hc2, hb1.grown hg2 hz1 (fun k hk => by cases hk; exact hg)⟩
set_option maxRecDepth 20000 in
set_option maxHeartbeats 1000000 in
theorem MakeSize_any (B : Nat) (x : Option Addr) (n cap : Nat) (m : Nat) (hm : m ≤ 1000) (lo hi : Int) (h1 : -1000 ≤ lo) (h2 : lo ≤ hi) (h3 : hi ≤ 1000) (w : World) (hB : B ≤ w.heap.size) (hr : RB B w x n) :
    Calls Try.prog 21 #[.slice x n cap, .int .i64 m, .int .i64 lo, .int .i64 hi] w fun e w' => ∃ v : Int, e = .returned (.int .i64 v) ∧ (lo ≤ v ∧ v ≤ hi) ∧ Below w.heap.size w w' := by
  go_enter Try.func21, Try.ntmps21
  go_wp2_with fail
  go_loopw [9, 10] (fun s k wr => ∃ j : Nat, s = .int .i64 (j + 1) ∧ k = .int .i64 (lo + j) ∧ lo + j ≤ hi ∧ j ≤ 99 ∧ w = wr) (fun _ k _ => (hi - intOf k).toNat)
  case atStart => exact ⟨0, by go_num, by go_num, by omega, by omega, by first | rfl | trivial⟩
  case round =>
    obtain ⟨j, rfl, rfl, hj, h99, rfl⟩ := hrel
    by_cases hlt : lo + (j : Int) < hi ∧ (j : Int) + 1 < 100
    · obtain ⟨q1, q2⟩ := hlt
      go_wp2_with fail
      go_roundw
      case rel => exact ⟨j + 1, by go_num, by go_num, by omega, by omega, by first | rfl | trivial⟩
      case measure => (simp [intOf]) <;> omega
    · have hex : (¬ lo + (j : Int) < hi) ∨ (lo + (j : Int) < hi ∧ ¬ (j : Int) + 1 < 100) := by omega
      clear hlt
      rcases hex with q1 | ⟨q1, q2⟩
      all_goals
        go_wp2_with (first | (go_at_call 59; refine (l31New_any B x n cap m hm w hB hr).mono ?_; rintro e w1 ⟨g, rfl, hg, hc1, hb1⟩; have hz1 := hb1.size; have hr1 := rB_below hr (hb1.mono hB)) | (go_at_call 61; refine (l01Below_any B g x n cap _ (by omega) (by omega) w1 (by omega) hr1 hc1).mono ?_; rintro e w2 ⟨v, rfl, ⟨hv0, hv1⟩, hc2, hg2⟩))
        have hb2 := hb1.grown hg2 hz1 (fun k hk => by cases hk; exact hg)
        go_loopw [11, 12] (fun o k wr => ∃ r : Int, 0 ≤ r ∧ r ≤ v ∧ o = .int .i64 (lo + (v - r)) ∧ k = .int .i64 r ∧ w2 = wr) (fun _ k _ => (intOf k).toNat)
        case atStart => exact ⟨v, by omega, by omega, by congr 1; omega, rfl, by first | rfl | trivial⟩
        case round =>
          obtain ⟨r, hr0, hrv, rfl, rfl, rfl⟩ := hrel
          by_cases hp : 0 < r
          · go_wp2_with fail
            go_roundw
            case rel => exact ⟨r - 1, by omega, by omega, by congr 1; omega, by go_num, by first | rfl | trivial⟩
            case measure => (simp [intOf]) <;> omega
          · obtain rfl : r = 0 := by omega
            go_wp2_with fail
            go_ret
            exact ⟨_, rfl, by omega, hb2⟩
end Go.Proofs.Ytilbhingfnjppab

namespace Go.Proofs.Ytilbhingfnjppab
open Go.RowKit
def iOk (n : Nat) (z : ByteArray) : Prop := (1 ≤ z.size ∧ z.size ≤ 8) ∧ isWP z ∧ ∀ i, i < z.size → lt z i < n
def sOk (zs : List ByteArray) : Prop := (1 ≤ zs.length ∧ zs.length ≤ 4) ∧ ∀ j, j < zs.length → iOk zs.length (zs.getD j ByteArray.empty)
open Classical in
noncomputable def sB (zs : List ByteArray) : Bool := decide (sOk zs)
theorem sB_yes {zs : List ByteArray} (h : sOk zs) : sB zs = true := by simp [sB, h]
theorem sB_no {zs : List ByteArray} (h : ¬ sOk zs) : sB zs = false := by simp [sB, h]
theorem s_of {zs : List ByteArray} (h : sB zs = true) : sOk zs := by simpa [sB] using h
theorem s_not {zs : List ByteArray} (h : sB zs = false) : ¬ sOk zs := by simpa [sB] using h
def hiP (n : Nat) (z : ByteArray) : Prop := (∀ i, i < z.size → bt z i - 97 < n) ∧ isWP z
open Classical in
noncomputable def hiB (n : Nat) (z : ByteArray) : Bool := decide (hiP n z)
theorem hiB_yes {n : Nat} {z : ByteArray} (h : hiP n z) : hiB n z = true := by simp [hiB, h]
theorem hiB_no {n : Nat} {z : ByteArray} (h : ¬ hiP n z) : hiB n z = false := by simp [hiB, h]
theorem hiB_of {n : Nat} {z : ByteArray} (h : hiB n z = true) : hiP n z := by simpa [hiB] using h
theorem hiB_not {n : Nat} {z : ByteArray} (h : hiB n z = false) : ¬ hiP n z := by simpa [hiB] using h
theorem hi_low {n : Nat} {z : ByteArray} (h : isWP z) : (∀ i, i < z.size → bt z i - 97 < n) ↔ ∀ i, i < z.size → lt z i < n := by
  constructor
  · intro q i hi
    have h1 := q i hi
    have h2 := (lt_eq (h.2 i hi)).1
    omega
  · intro q i hi
    have h1 := q i hi
    have h2 := (lt_eq (h.2 i hi)).1
    omega

set_option maxRecDepth 20000 in
set_option maxHeartbeats 2000000 in
theorem hasImages_any (x : Option Addr) (n cap : Nat) (z : ByteArray) (w : World) (hn : n ≤ 1048576) (hz : z.size ≤ 9223372036854775807) :
    Calls Try.prog 67 #[.agg #[.slice x n cap], .string z] w fun e w' => e = .returned (.bool (hiB n z)) ∧ Below w.heap.size w w' := by
  have hb : ∀ j (h : j < z.size), ((z[j]'h).toNat : Int) = bt z j := fun j h => bt_eq z j h
  go_enter Try.func67, Try.ntmps67
  go_wp2
  go_loopw [8] (fun i wr => ∃ k : Nat, k ≤ z.size ∧ i = .int .i64 k ∧ Hid (∀ j, j < k → bt z j - 97 < n) ∧ wr.cell? ⟨w.heap.size, 0, none⟩ = some (.slice x n cap) ∧ Below w.heap.size w wr) (fun i _ => z.size - (intOf i).toNat)
  case atStart => exact ⟨0, by omega, rfl, Lib.hid (fun _ h => absurd h (by omega)), by simp [go_sem], by (repeat (first | with_reducible exact Below.refl _ _ | assumption | with_reducible refine Qdrew ?_ | with_reducible refine QdrewN ?_ | ((with_reducible refine Qset ?_ ?_); exact (by ((try simp only [World.size_alloc, World.size_setCell, World.size_drew, size_drewN]); (try dsimp only); omega))) | ((with_reducible refine Qalloc ?_ ?_); exact (by ((try simp only [World.size_alloc, World.size_setCell, World.size_drew, size_drewN]); (try dsimp only); omega))) | refine Qtrans (by assumption) (by ((try simp only [World.size_alloc, World.size_setCell, World.size_drew, size_drewN]); (try dsimp only); omega)) ?_))⟩
  case round =>
    obtain ⟨k, hk, rfl, hall, hcl, hbel⟩ := hrel
    by_cases hlt : k < z.size
    · have hlt' : (k : Int) < (z.size : Int) := by omega
      have hk0 : (0 : Int) ≤ (k : Int) := by omega
      obtain ⟨hr1, hr2⟩ := bt_range z k
      by_cases hlow : bt z k - 97 < (n : Int)
      · have hok := Lib.hid hlow
        have hlow' : ¬ (n : Int) ≤ bt z k - 97 := by omega
        go_wp2_with fail
        go_quiet (fail)
        go_wp2
        go_roundw
        case rel => exact ⟨k + 1, by omega, by go_num, Lib.hid (fun j hj => by
            by_cases e : j = k
            · subst e; exact hok.out
            · exact hall.out j (by omega)), by simp [go_sem, *], by (repeat (first | with_reducible exact Below.refl _ _ | assumption | with_reducible refine Qdrew ?_ | with_reducible refine QdrewN ?_ | ((with_reducible refine Qset ?_ ?_); exact (by ((try simp only [World.size_alloc, World.size_setCell, World.size_drew, size_drewN]); (try dsimp only); omega))) | ((with_reducible refine Qalloc ?_ ?_); exact (by ((try simp only [World.size_alloc, World.size_setCell, World.size_drew, size_drewN]); (try dsimp only); omega))) | refine Qtrans (by assumption) (by ((try simp only [World.size_alloc, World.size_setCell, World.size_drew, size_drewN]); (try dsimp only); omega)) ?_))⟩
        case measure => (simp [intOf]) <;> omega
      · have hf : Hid (hiB n z = false) := hiB_no (fun q => hlow (q.1 k hlt))
        have hlow' : (n : Int) ≤ bt z k - 97 := by omega
        go_wp2_with fail
        go_quiet (fail)
        go_wp2
        go_ret
        exact ⟨by rw [hf.out]; rfl, by (repeat (first | with_reducible exact Below.refl _ _ | assumption | with_reducible refine Qdrew ?_ | with_reducible refine QdrewN ?_ | ((with_reducible refine Qset ?_ ?_); exact (by ((try simp only [World.size_alloc, World.size_setCell, World.size_drew, size_drewN]); (try dsimp only); omega))) | ((with_reducible refine Qalloc ?_ ?_); exact (by ((try simp only [World.size_alloc, World.size_setCell, World.size_drew, size_drewN]); (try dsimp only); omega))) | refine Qtrans (by assumption) (by ((try simp only [World.size_alloc, World.size_setCell, World.size_drew, size_drewN]); (try dsimp only); omega)) ?_))⟩
    · obtain rfl : k = z.size := by omega
      have hf : Hid (hiB n z = isWB z) := by
        show _ = _
        cases h : isWB z
        · exact hiB_no (fun q => isW_not h q.2)
        · exact hiB_yes ⟨hall.out, isW_of h⟩
      go_wp2_with ((go_at_call 62; refine (isWord_any _ _ hz).mono ?_; rintro e w1 ⟨rfl, rfl⟩))
      go_ret
      exact ⟨by rw [hf.out]; rfl, hbel⟩
set_option maxRecDepth 20000 in
set_option maxHeartbeats 2000000 in
theorem implSubstOk_any (x : Option Addr) (n cap : Nat) (zs : List ByteArray) (w : World) (h : IsStrs w x n cap zs) (hn : n ≤ 1048576) :
    Calls Try.prog 32 #[.agg #[.slice x n cap]] w fun e w' => e = .returned (.bool (sB zs)) ∧ Below w.heap.size w w' := by
  have hlen := h.1
  go_enter Try.func32, Try.ntmps32
  go_wp2
  go_loopw [8] (fun i wr => ∃ k : Nat, k ≤ n ∧ i = .int .i64 k ∧ Hid (∀ j, j < k → iOk n (zs.getD j ByteArray.empty)) ∧ wr.cell? ⟨w.heap.size, 0, none⟩ = some (.slice x n cap) ∧ w.heap.size + 1 ≤ wr.heap.size ∧ Below w.heap.size w wr) (fun i _ => n - (intOf i).toNat)
  case atStart => exact ⟨0, by omega, rfl, Lib.hid (fun _ h => absurd h (by omega)), by simp [go_sem], by ((try simp only [World.size_alloc, World.size_setCell, World.size_drew, size_drewN]); (try dsimp only); omega), by (repeat (first | with_reducible exact Below.refl _ _ | assumption | with_reducible refine Qdrew ?_ | with_reducible refine QdrewN ?_ | ((with_reducible refine Qset ?_ ?_); exact (by ((try simp only [World.size_alloc, World.size_setCell, World.size_drew, size_drewN]); (try dsimp only); omega))) | ((with_reducible refine Qalloc ?_ ?_); exact (by ((try simp only [World.size_alloc, World.size_setCell, World.size_drew, size_drewN]); (try dsimp only); omega))) | refine Qtrans (by assumption) (by ((try simp only [World.size_alloc, World.size_setCell, World.size_drew, size_drewN]); (try dsimp only); omega)) ?_))⟩
  case round =>
    obtain ⟨k, hk, rfl, hall, hcl, hz1, hbel⟩ := hrel
    by_cases hlt : k < n
    · obtain ⟨b, off, rfl, hb, hc⟩ := isStrs_cell h (by omega)
      have hck := (hbel.cell (by exact hb)).trans (hc k hlt)
      have hsz := size_le h.2.2.2.1 k
      obtain ⟨s, hs⟩ : ∃ s, zs.getD k ByteArray.empty = s := ⟨_, rfl⟩
      rw [hs] at hck hsz
      have hs' := Lib.hid hs
      have hsz' : s.size ≤ 9223372036854775807 := hsz
      have hk0 : (0 : Int) ≤ (k : Int) := by omega
      have hk1 : (k : Int) < (n : Int) := by omega
      have hbw : b < wr.heap.size := by omega
      clear hs hc hsz
      cases hin : inB (s.size : Int) 1 8
      · have hf := Lib.hid (sB_no (zs := zs) (fun q => by have := (q.2 k (by omega)).1; rw [hs'.out] at this; exact inB_false.1 hin (by omega)))
        go_wp2_with ((go_at_call 65; refine (within_any _ _ _ _).mono ?_; rintro e w1 ⟨rfl, rfl⟩))
        go_ret
        exact ⟨by rw [hf.out]; rfl, hbel⟩
      · have hi := inB_true.1 hin
        cases hh : hiB n s
        · have hf := Lib.hid (sB_no (zs := zs) (fun q => by
            have q1 := (q.2 k (by omega)).2
            rw [hs'.out, hlen] at q1
            exact (hiB_not hh) ⟨(hi_low q1.1).2 q1.2, q1.1⟩))
          go_wp2_with (first | (go_at_call 65; refine (within_any _ _ _ _).mono ?_; rintro e w1 ⟨rfl, rfl⟩) | (go_at_call 67; refine (hasImages_any _ _ _ _ _ hn hsz').mono ?_; rintro e w1 ⟨rfl, hb1⟩))
          go_ret
          exact ⟨by rw [hf.out]; rfl, by (repeat (first | with_reducible exact Below.refl _ _ | assumption | with_reducible refine Qdrew ?_ | with_reducible refine QdrewN ?_ | ((with_reducible refine Qset ?_ ?_); exact (by ((try simp only [World.size_alloc, World.size_setCell, World.size_drew, size_drewN]); (try dsimp only); omega))) | ((with_reducible refine Qalloc ?_ ?_); exact (by ((try simp only [World.size_alloc, World.size_setCell, World.size_drew, size_drewN]); (try dsimp only); omega))) | refine Qtrans (by assumption) (by ((try simp only [World.size_alloc, World.size_setCell, World.size_drew, size_drewN]); (try dsimp only); omega)) ?_))⟩
        · have hP : hiP n s := hiB_of hh
          have hok := Lib.hid (show iOk n s from ⟨by omega, hP.2, (hi_low hP.2).1 hP.1⟩)
          clear hP
          go_wp2_with (first | (go_at_call 65; refine (within_any _ _ _ _).mono ?_; rintro e w1 ⟨rfl, rfl⟩) | (go_at_call 67; refine (hasImages_any _ _ _ _ _ hn hsz').mono ?_; rintro e w1 ⟨rfl, hb1⟩))
          have hcl1 : w1.cell? ⟨w.heap.size, 0, none⟩ = some (.slice (some ⟨b, off, none⟩) n cap) := (hb1.cell (by show w.heap.size < _; omega)).trans hcl
          have hz2 := hb1.size
          go_roundw
          case rel => exact ⟨k + 1, by omega, by go_num, Lib.hid (fun j hj => by
              by_cases e : j = k
              · subst e; rw [hs'.out]; exact hok.out
              · exact hall.out j (by omega)), hcl1, by omega, by (repeat (first | with_reducible exact Below.refl _ _ | assumption | with_reducible refine Qdrew ?_ | with_reducible refine QdrewN ?_ | ((with_reducible refine Qset ?_ ?_); exact (by ((try simp only [World.size_alloc, World.size_setCell, World.size_drew, size_drewN]); (try dsimp only); omega))) | ((with_reducible refine Qalloc ?_ ?_); exact (by ((try simp only [World.size_alloc, World.size_setCell, World.size_drew, size_drewN]); (try dsimp only); omega))) | refine Qtrans (by assumption) (by ((try simp only [World.size_alloc, World.size_setCell, World.size_drew, size_drewN]); (try dsimp only); omega)) ?_))⟩
          case measure => (simp [intOf]) <;> omega
    · obtain rfl : n = k := by omega
      have hf : Hid (sB zs = inB (n : Int) 1 4) := by
        show _ = _
        cases hin : inB (n : Int) 1 4
        · exact sB_no (fun q => inB_false.1 hin (by have := q.1; omega))
        · have hi := inB_true.1 hin
          exact sB_yes ⟨by omega, by rw [hlen]; exact hall.out⟩
      go_wp2_with ((go_at_call 65; refine (within_any _ _ _ _).mono ?_; rintro e w1 ⟨rfl, rfl⟩))
      go_ret
      exact ⟨by rw [hf.out]; rfl, hbel⟩
set_option maxRecDepth 20000 in
set_option maxHeartbeats 2000000 in
theorem specSubstOk_any (x : Option Addr) (n cap : Nat) (zs : List ByteArray) (w : World) (h : IsStrs w x n cap zs) (hn : n ≤ 1048576) :
    Calls Try.prog 134 #[.agg #[.slice x n cap]] w fun e w' => e = .returned (.bool (sB zs)) ∧ Below w.heap.size w w' := by
  have hlen := h.1
  cases hin : inB (n : Int) 1 4
  · have hf := Lib.hid (sB_no (zs := zs) (fun q => inB_false.1 hin (by have := q.1; omega)))
    go_enter Try.func134, Try.ntmps134
    go_wp2_with ((go_at_call 155; refine (l01In_any _ _ _ _).mono ?_; rintro e w1 ⟨rfl, rfl⟩))
    go_ret
    exact ⟨by rw [hf.out]; rfl, by (repeat (first | with_reducible exact Below.refl _ _ | assumption | with_reducible refine Qdrew ?_ | with_reducible refine QdrewN ?_ | ((with_reducible refine Qset ?_ ?_); exact (by ((try simp only [World.size_alloc, World.size_setCell, World.size_drew, size_drewN]); (try dsimp only); omega))) | ((with_reducible refine Qalloc ?_ ?_); exact (by ((try simp only [World.size_alloc, World.size_setCell, World.size_drew, size_drewN]); (try dsimp only); omega))) | refine Qtrans (by assumption) (by ((try simp only [World.size_alloc, World.size_setCell, World.size_drew, size_drewN]); (try dsimp only); omega)) ?_))⟩
  have hi := inB_true.1 hin
  go_enter Try.func134, Try.ntmps134
  go_wp2_with ((go_at_call 155; refine (l01In_any _ _ _ _).mono ?_; rintro e w1 ⟨rfl, rfl⟩))
  go_loopw [15] (fun i wr => ∃ k : Nat, k ≤ n ∧ i = .int .i64 k ∧ Hid (∀ j, j < k → iOk n (zs.getD j ByteArray.empty)) ∧ Below w.heap.size w wr) (fun i _ => n - (intOf i).toNat)
  case atStart => exact ⟨0, by omega, rfl, Lib.hid (fun _ h => absurd h (by omega)), by (repeat (first | with_reducible exact Below.refl _ _ | assumption | with_reducible refine Qdrew ?_ | with_reducible refine QdrewN ?_ | ((with_reducible refine Qset ?_ ?_); exact (by ((try simp only [World.size_alloc, World.size_setCell, World.size_drew, size_drewN]); (try dsimp only); omega))) | ((with_reducible refine Qalloc ?_ ?_); exact (by ((try simp only [World.size_alloc, World.size_setCell, World.size_drew, size_drewN]); (try dsimp only); omega))) | refine Qtrans (by assumption) (by ((try simp only [World.size_alloc, World.size_setCell, World.size_drew, size_drewN]); (try dsimp only); omega)) ?_))⟩
  case round =>
    obtain ⟨k, hk, rfl, hall, hbel⟩ := hrel
    by_cases hlt : k < n
    · obtain ⟨b, off, rfl, hb, hc⟩ := isStrs_cell h (by omega)
      have hck := (hbel.cell (by exact hb)).trans (hc k hlt)
      have hsz := size_le h.2.2.2.1 k
      obtain ⟨s, hs⟩ : ∃ s, zs.getD k ByteArray.empty = s := ⟨_, rfl⟩
      rw [hs] at hck hsz
      have hs' := Lib.hid hs
      have hsz' : s.size ≤ 9223372036854775807 := hsz
      have hk0 : (0 : Int) ≤ (k : Int) := by omega
      have hk1 : (k : Int) < (n : Int) := by omega
      clear hs hc hsz
      cases hin8 : inB (s.size : Int) 1 8
      · have hf := Lib.hid (sB_no (zs := zs) (fun q => by have := (q.2 k (by omega)).1; rw [hs'.out] at this; exact inB_false.1 hin8 (by omega)))
        go_wp2_with ((go_at_call 155; refine (l01In_any _ _ _ _).mono ?_; rintro e w1 ⟨rfl, rfl⟩))
        go_ret
        exact ⟨by rw [hf.out]; rfl, hbel⟩
      · have hi8 := inB_true.1 hin8
        cases hw : isWB s
        · have hf := Lib.hid (sB_no (zs := zs) (fun q => by have q1 := (q.2 k (by omega)).2.1; rw [hs'.out] at q1; exact isW_not hw q1))
          go_wp2_with (first | (go_at_call 155; refine (l01In_any _ _ _ _).mono ?_; rintro e w1 ⟨rfl, rfl⟩) | (go_at_call 116; refine (specWordOk_any _ _ hsz').mono ?_; rintro e w1 ⟨rfl, rfl⟩))
          go_ret
          exact ⟨by rw [hf.out]; rfl, hbel⟩
        · have hww := isW_of hw
          cases hwi : wiB n s
          · have hf := Lib.hid (sB_no (zs := zs) (fun q => by have q1 := (q.2 k (by omega)).2.2; rw [hs'.out, hlen] at q1; exact wi_not hwi q1))
            go_wp2_with (first | (go_at_call 155; refine (l01In_any _ _ _ _).mono ?_; rintro e w1 ⟨rfl, rfl⟩) | (go_at_call 116; refine (specWordOk_any _ _ hsz').mono ?_; rintro e w1 ⟨rfl, rfl⟩) | (go_at_call 117; refine (l03Within_any _ _ _ hww hn).mono ?_; rintro e w1 ⟨rfl, rfl⟩))
            go_ret
            exact ⟨by rw [hf.out]; rfl, hbel⟩
          · have hok := Lib.hid (show iOk n s from ⟨by omega, hww, wi_of hwi⟩)
            go_wp2_with (first | (go_at_call 155; refine (l01In_any _ _ _ _).mono ?_; rintro e w1 ⟨rfl, rfl⟩) | (go_at_call 116; refine (specWordOk_any _ _ hsz').mono ?_; rintro e w1 ⟨rfl, rfl⟩) | (go_at_call 117; refine (l03Within_any _ _ _ hww hn).mono ?_; rintro e w1 ⟨rfl, rfl⟩))
            go_roundw
            case rel => exact ⟨k + 1, by omega, by go_num, Lib.hid (fun j hj => by
                by_cases e : j = k
                · subst e; rw [hs'.out]; exact hok.out
                · exact hall.out j (by omega)), hbel⟩
            case measure => (simp [intOf]) <;> omega
    · obtain rfl : n = k := by omega
      have hf := Lib.hid (sB_yes (zs := zs) ⟨by omega, by rw [hlen]; exact hall.out⟩)
      go_wp2
      go_ret
      exact ⟨by rw [hf.out]; rfl, hbel⟩
/-! ### The laws' own functions -/
/-- A substitution that the law made, in whatever later world. -/
theorem subst_strs {w1 w2 : World} {B g n cap : Nat} {zs : List ByteArray} (h : w1.ownsRow B 9 1 (.slice (some ⟨g, 0, none⟩) n cap) n (sv zs)) (hz : ∀ s ∈ zs, s.size ≤ maxLen) (hb : Below w1.heap.size w1 w2) : IsStrs w2 (some ⟨g, 0, none⟩) n cap zs :=
  isStrs_below (isStrs_own h hz) (Nat.le_refl _) hb
end Go.Proofs.Ytilbhingfnjppab

namespace Go.Proofs.Ytilbhingfnjppab
open Go.RowKit
set_option maxRecDepth 20000 in
set_option maxHeartbeats 1000000 in
theorem l01Once_any (B g : Nat) (x : Option Addr) (n cap : Nat) (k : Int) (hk1 : 1 ≤ k) (hk2 : k ≤ 256) (w : World) (hB : B ≤ g) (hr : RB B w x n) (hc : Cur w g x n cap) :
    Calls Try.prog 95 #[.pointer (some ⟨g, 0, none⟩), .int .i64 k] w fun e w' => ∃ b : Bool, e = .returned (.bool b) ∧ Cur w' g x n cap ∧ w.grownBy w' (some g) := by
  have hC := l01Below_any B g x n cap k hk1 hk2 w hB hr hc
  clear hr hc
  go_enter Try.func95, Try.ntmps95
  go_wp2_with (go_at_call 61; refine hC.mono ?_; rintro e w1 ⟨v, rfl, hv, hc1, hg1⟩)
  go_ret
  exact ⟨_, rfl, hc1, hg1⟩
theorem grown_new {w a b : World} {g : Nat} {r : Option Nat} (h1 : w.grownBy a (some g)) (h2 : a.grownBy b r) (hr : ∀ k, r = some k → w.heap.size ≤ k) : w.grownBy b (some g) := by
  refine ⟨h2.os.trans h1.os, h2.tape.trans h1.tape, h2.output.trans h1.output, Nat.le_trans h1.size h2.size, fun k hk hne => ?_⟩
  refine (h2.block k (Nat.lt_of_lt_of_le hk h1.size) (fun e => ?_)).trans (h1.block k hk hne)
  have := hr k e.symm; omega
theorem grownG_below {w a b : World} {g : Nat} (h1 : w.grownBy a (some g)) (h2 : Below a.heap.size a b) : w.grownBy b (some g) := grown_new h1 (below_grown h2) (fun k hk => by cases hk)
theorem grown_alloc {w a : World} {g : Nat} (h1 : w.grownBy a (some g)) (o : Obj) : w.grownBy (a.alloc o) (some g) := grownG_below h1 ((Below.refl _ a).alloc (Nat.le_refl _) _)
theorem grown_gg {w a b : World} {g : Nat} (h1 : w.grownBy a (some g)) (h2 : a.grownBy b (some g)) : w.grownBy b (some g) := h1.trans h2
theorem cur_lt {w : World} {g : Nat} {x : Option Addr} {n cap : Nat} (h : Cur w g x n cap) : g < w.heap.size := by obtain ⟨_, _, _, _, _, _, _, q⟩ := h; exact q
theorem ltr_nat {v : Int} (h0 : 0 ≤ v) (h1 : v ≤ 25) : ((UInt8.ofNat (97 + v.toNat)).toNat : Int) = 97 + v := by
  rw [UInt8.toNat_ofNat', Nat.mod_eq_of_lt (by omega)]
  omega
set_option maxRecDepth 20000 in
set_option maxHeartbeats 2000000 in
/-- N letters among the first k. -/
theorem l02Word_any (B g : Nat) (x : Option Addr) (n cap : Nat) (N : Nat) (hN : N ≤ 1000) (k : Int) (hk1 : 1 ≤ k) (hk2 : k ≤ 26) (w : World) (hB : B ≤ g) (hr : RB B w x n) (hc : Cur w g x n cap) :
    Calls Try.prog 60 #[.pointer (some ⟨g, 0, none⟩), .int .i64 N, .int .i64 k] w fun e w' => ∃ l : List UInt8, e = .returned (.string ⟨l.toArray⟩) ∧ l.length = N ∧ (∀ b ∈ l, 97 ≤ b.toNat ∧ (b.toNat : Int) < 97 + k) ∧ Cur w' g x n cap ∧ w.grownBy w' (some g) := by
  have hgw := cur_lt hc
  obtain ⟨i0, hi0, hz0, hz1, hz2⟩ := info_parts infoB
  have hc0 := cur_below hc ((Below.refl _ w).alloc (Nat.le_refl _) (.cells #[] 5)) hgw
  have ho0 : (w.alloc (.cells #[] 5)).ownsRow w.heap.size 5 1 (.slice (some ⟨w.heap.size, 0, none⟩) 0 0) 0 (bv []) := World.ownsRow_lit w #[] 0 (Nat.le_refl _) (by decide) rfl
  have hg0 : w.grownBy (w.alloc (.cells #[] 5)) (some g) := grown_alloc (World.grownBy.refl _ _) _
  have hrH := Lib.hid hr
  clear hr hc
  go_enter Try.func60, Try.ntmps60
  go_wp2_with fail
  go_loopw [7, 8] (fun out i wr => ∃ (j q cp : Nat) (l : List UInt8), j ≤ N ∧ i = .int .i64 j ∧ out = .slice (some ⟨q, 0, none⟩) j cp ∧ l.length = j ∧ (∀ b ∈ l, 97 ≤ b.toNat ∧ (b.toNat : Int) < 97 + k) ∧ wr.ownsRow w.heap.size 5 1 (.slice (some ⟨q, 0, none⟩) j cp) j (bv l) ∧ Cur wr g x n cap ∧ w.grownBy wr (some g)) (fun _ i _ => N - (intOf i).toNat)
  case atStart => exact ⟨0, w.heap.size, 0, [], by omega, rfl, rfl, rfl, by simp, ho0, hc0, hg0⟩
  case round =>
    clear hc0 ho0 hg0
    obtain ⟨j, q, cp, l, hj, rfl, rfl, hl, hlb, hown, hc, hg⟩ := hrel
    have hwz := hg.size
    have hqb := (hown.lt q rfl).1
    have hql := (hown.lt q rfl).2
    by_cases hlt : j < N
    · have hC := l01Below_any B g x n cap k hk1 (by omega) wr hB (rB_grown hrH.out hg (by omega) hB) hc
      have hlb' := Lib.hid hlb
      have hl' := Lib.hid hl
      have i1 : (j : Int) < (N : Int) := by omega
      have i8 : IntKind.i64.wrap ((j : Int) + 1) = (j : Int) + 1 := IntWalk.i64_in _ (by omega)
      clear hc hlb hl
      go_wp2_with (first | (go_at_call 61; refine hC.mono ?_; rintro e w6 ⟨v, rfl, ⟨hv0, hv1⟩, hc6, hg6⟩; have hz6 := hg6.size; have hown6 := hown.kept hg6 (.inr (by simp [Value.ownBlock]; omega)); have i7 : IntKind.u8.wrap (97 + v) = 97 + v := IntWalk.u8_in _ (by omega); have i6 : IntKind.i64.wrap (97 + v) = 97 + v := IntWalk.i64_in _ (by omega)) | (at_builtin; refine wpList_append_lies _ rfl _ _ _ rfl (w.heap.size) 5 i0 _ 1 1 Try.underlying22 hi0 hz0 hz1 hz2 rfl (by decide) (.slice (some ⟨q, 0, none⟩) j cp) (j) (bv l) (by rfl) (hown6.alloc _) ⟨(w6).heap.size, 0, none⟩ 1 1 [.int .u8 (97 + v)] (by rfl) (by rfl) (World.news_of_block (cs := #[.int .u8 (97 + v)]) (t := 5) (fr := (0, 0)) (heap_alloc_new (w6) _)) (by simp [Value.oneCell']) (by omega) (by unfold maxLen; omega) (by omega) (by simp; omega) ((w6).heap.size + 1) (by simp) ?_; intro gg cap w1 hown1 hgrow hatg hltg))
      refine ⟨⟨j + 1, gg, cap, l ++ [UInt8.ofNat (97 + v.toNat)], by omega, by go_num, rfl, by simp [hl'.out], ?_, ?_, cur_far (cur_below hc6 ((Below.refl _ w6).alloc (Nat.le_refl _) _) (cur_lt hc6)) hgrow (by simp [Value.ownBlock]; omega), grown_new (grown_alloc (grown_gg hg hg6) _) hgrow (fun k' hk' => by simp [Value.ownBlock] at hk'; omega)⟩, by simp [intOf]; omega⟩
      · intro b hb
        rcases List.mem_append.1 hb with h | h
        · exact hlb'.out b h
        · rw [List.mem_singleton] at h; subst h
          have := ltr_nat hv0 (show v ≤ 25 by omega)
          omega
      · rw [bv_snoc, ltr_nat hv0 (by omega)]
        exact hown1
    · obtain rfl : j = N := by omega
      have hcv := own_string (g := q) (cap := cp) (l := l) (w := wr) (B := w.heap.size) (by rw [hl]; exact hown)
      rw [hl] at hcv
      have hlb' := Lib.hid hlb
      have hl' := Lib.hid hl
      clear hlb hl
      go_wp2
      go_ret
      exact ⟨l, rfl, hl'.out, hlb'.out, hc, hg⟩
/-! ### Splitting at a comma, joining with one -/
/-- What was split off ahead of place k, and where the rest begins. -/
def spl (s : ByteArray) : Nat → List ByteArray × Nat
  | 0 => ([], 0)
  | k + 1 => if bt s k = 44 then ((spl s k).1 ++ [s.extract (spl s k).2 k], k + 1) else spl s k
theorem spl_yes {s : ByteArray} {k : Nat} (h : bt s k = 44) : spl s (k + 1) = ((spl s k).1 ++ [s.extract (spl s k).2 k], k + 1) := by simp [spl, h]
theorem spl_no {s : ByteArray} {k : Nat} (h : ¬ bt s k = 44) : spl s (k + 1) = spl s k := by simp [spl, h]
theorem spl_le (s : ByteArray) : ∀ k, (spl s k).2 ≤ k ∧ (spl s k).1.length ≤ k
  | 0 => by simp [spl]
  | k + 1 => by
    have := spl_le s k
    by_cases h : bt s k = 44
    · rw [spl_yes h]; simp; omega
    · rw [spl_no h]; omega
def splt (s : ByteArray) : List ByteArray := (spl s s.size).1 ++ [s.extract (spl s s.size).2 s.size]
theorem splt_len (s : ByteArray) : (splt s).length ≤ s.size + 1 := by have := (spl_le s s.size).2; simp [splt]; omega
theorem spl_small (s : ByteArray) (h : s.size ≤ 1000000) : ∀ k, ∀ z ∈ (spl s k).1, z.size ≤ maxLen
  | 0 => by simp [spl]
  | k + 1 => by
    intro z hz
    by_cases hc : bt s k = 44
    · rw [spl_yes hc] at hz
      rcases List.mem_append.1 hz with q | q
      · exact spl_small s h k z q
      · rw [List.mem_singleton] at q; subst q
        unfold maxLen; simp; omega
    · rw [spl_no hc] at hz; exact spl_small s h k z hz
theorem splt_small (s : ByteArray) (h : s.size ≤ 1000000) : ∀ z ∈ splt s, z.size ≤ maxLen := by
  intro z hz
  rcases List.mem_append.1 hz with q | q
  · exact spl_small s h _ z q
  · rw [List.mem_singleton] at q; subst q
    unfold maxLen; simp; omega
set_option maxRecDepth 20000 in
set_option maxHeartbeats 4000000 in
theorem SplitAny_any (s c : ByteArray) (w : World) (hs : s.size ≤ 1000000) (hc1 : c.size = 1) (hc44 : bt c 0 = 44) :
    Calls Try.prog 133 #[.string s, .string c] w fun e w' => ∃ g cap, e = .returned (.slice (some ⟨g, 0, none⟩) (splt s).length cap) ∧ w'.ownsRow w.heap.size 9 1 (.slice (some ⟨g, 0, none⟩) (splt s).length cap) (splt s).length (sv (splt s)) ∧ Below w.heap.size w w' := by
  obtain ⟨i0, hi0, hz0, hz1, hz2⟩ := info_parts infoS
  have hb : ∀ j (h : j < s.size), ((s[j]'h).toNat : Int) = bt s j := fun j h => bt_eq s j h
  have hbc : ∀ j (h : j < c.size), ((c[j]'h).toNat : Int) = bt c j := fun j h => bt_eq c j h
  have ho0 : (w.alloc (.cells #[] 9)).ownsRow w.heap.size 9 1 (.slice (some ⟨w.heap.size, 0, none⟩) 0 0) 0 (sv []) := World.ownsRow_lit w #[] 0 (Nat.le_refl _) (by decide) rfl
  go_enter Try.func133, Try.ntmps133
  go_wp2_with fail
  go_loopw [5, 6, 7] (fun out fr i wr => ∃ (k q cp f : Nat) (D : List ByteArray), k ≤ s.size ∧ i = .int .i64 k ∧ fr = .int .i64 f ∧ out = .slice (some ⟨q, 0, none⟩) D.length cp ∧ Hid (spl s k = (D, f)) ∧ f ≤ k ∧ D.length ≤ k ∧ wr.ownsRow w.heap.size 9 1 (.slice (some ⟨q, 0, none⟩) D.length cp) D.length (sv D) ∧ Below w.heap.size w wr) (fun _ _ i _ => s.size - (intOf i).toNat)
  case atStart => exact ⟨0, w.heap.size, 0, 0, [], by omega, rfl, rfl, rfl, Lib.hid rfl, by omega, by simp, ho0, (Below.refl _ w).alloc (Nat.le_refl _) _⟩
  case round =>
    clear ho0
    rename World => wo
    obtain ⟨k, q, cp, f, D, hk, rfl, rfl, rfl, hsp, hf, hDl, hown, hbel⟩ := hrel
    have hwz := hbel.size
    have hqb := (hown.lt q rfl).1
    have hql := (hown.lt q rfl).2
    by_cases hlt : k < s.size
    · have i1 : (k : Int) < (s.size : Int) := by omega
      have i0' : (0 : Int) ≤ (k : Int) := by omega
      have i8 : IntKind.i64.wrap ((k : Int) + 1) = (k : Int) + 1 := IntWalk.i64_in _ (by omega)
      have hfk : (f : Int) ≤ (k : Int) := by omega
      have hfs : (f : Int) ≤ (s.size : Int) := by omega
      have hf0 : (0 : Int) ≤ (f : Int) := by omega
      by_cases h44 : bt s k = 44
      · have hnx : Hid (spl s (k + 1) = (D ++ [s.extract f k], k + 1)) := by show _ = _; rw [spl_yes h44, hsp.out]
        go_wp2_with fail
        go_loopw [5, 6, 8] (fun o ff t wr => o = .slice (some ⟨q, 0, none⟩) D.length cp ∧ ff = .int .i64 f ∧ t = .int .i64 0 ∧ wo = wr) (fun _ _ _ _ => 0)
        case atStart => exact ⟨rfl, rfl, rfl, by first | rfl | trivial⟩
        case round =>
          obtain ⟨rfl, rfl, rfl, rfl⟩ := hrel
          go_wp2_with fail
          go_quiet (fail)
          go_wp2_with ((at_builtin; refine wpList_append_lies _ rfl _ _ _ rfl (w.heap.size) 9 i0 _ 1 16 Try.underlying23 hi0 hz0 hz1 hz2 rfl (by decide) (.slice (some ⟨q, 0, none⟩) D.length cp) (D.length) (sv D) (by rfl) (hown.alloc _) ⟨((wo.drewN nq)).heap.size, 0, none⟩ 1 1 [.string (s.extract f k)] (by rfl) (by rfl) (World.news_of_block (cs := #[.string (s.extract f k)]) (t := 9) (fr := (0, 0)) (heap_alloc_new ((wo.drewN nq)) _)) (by simp [Value.oneCell']) (by omega) (by unfold maxLen; omega) (by omega) (by simp; omega) (((wo.drewN nq)).heap.size + 1) (by simp) ?_; intro gg cap w1 hown1 hgrow hatg hltg))
          exact ⟨⟨k + 1, gg, cap, k + 1, D ++ [s.extract f k], by omega, by go_num, by go_num, by rw [List.length_append]; rfl, hnx, by omega, by simp; omega, by rw [sv_snoc, List.length_append]; exact hown1, Below.grown ((QdrewN hbel).alloc (by simpa using hwz) _) hgrow (by simp; omega) (fun k' hk' => by simp [Value.ownBlock] at hk'; omega)⟩, by simp [intOf]; omega⟩
      · have hnx : Hid (spl s (k + 1) = (D, f)) := by show _ = _; rw [spl_no h44, hsp.out]
        go_wp2_with fail
        go_loopw [5, 6, 8] (fun o ff t wr => o = .slice (some ⟨q, 0, none⟩) D.length cp ∧ ff = .int .i64 f ∧ ((t = .int .i64 0 ∧ wo = wr) ∨ (t = .int .i64 1 ∧ ∃ nq, wr = wo.drewN nq))) (fun _ _ t _ => 1 - (intOf t).toNat)
        case atStart => exact ⟨rfl, rfl, .inl ⟨rfl, by first | rfl | trivial⟩⟩
        case round =>
          obtain ⟨rfl, rfl, ⟨rfl, rfl⟩ | ⟨rfl, nq, rfl⟩⟩ := hrel
          · go_wp2_with fail
            go_quiet (fail)
            go_wp2_with fail
            exact ⟨⟨rfl, rfl, .inr ⟨by go_num, _, rfl⟩⟩, by simp [intOf]⟩
          · go_wp2_with fail
            exact ⟨⟨k + 1, q, cp, f, D, by omega, by go_num, rfl, rfl, hnx, by omega, by omega, hown, QdrewN hbel⟩, by simp [intOf]; omega⟩
    · obtain rfl : k = s.size := by omega
      have hfs : (f : Int) ≤ (s.size : Int) := by omega
      have hf0 : (0 : Int) ≤ (f : Int) := by omega
      have he : Hid (splt s = D ++ [s.extract f s.size]) := by show _ = _; unfold splt; rw [hsp.out]
      go_wp2_with ((at_builtin; refine wpList_append_lies _ rfl _ _ _ rfl (w.heap.size) 9 i0 _ 1 16 Try.underlying23 hi0 hz0 hz1 hz2 rfl (by decide) (.slice (some ⟨q, 0, none⟩) D.length cp) (D.length) (sv D) (by rfl) (hown.alloc _) ⟨(wo).heap.size, 0, none⟩ 1 1 [.string (s.extract f s.size)] (by rfl) (by rfl) (World.news_of_block (cs := #[.string (s.extract f s.size)]) (t := 9) (fr := (0, 0)) (heap_alloc_new (wo) _)) (by simp [Value.oneCell']) (by omega) (by unfold maxLen; omega) (by omega) (by simp; omega) ((wo).heap.size + 1) (by simp) ?_; intro gg cap w1 hown1 hgrow hatg hltg))
      go_ret
      exact ⟨gg, cap, by rw [he.out, List.length_append]; rfl, by rw [he.out, sv_snoc, List.length_append]; exact hown1, Below.grown (hbel.alloc (by omega) _) hgrow (by simp; omega) (fun k' hk' => by simp [Value.ownBlock] at hk'; omega)⟩
/-- The first k strings, a comma between. -/
def joi (zs : List ByteArray) : Nat → ByteArray
  | 0 => ⟨#[]⟩
  | k + 1 => (if k = 0 then (⟨#[]⟩ : ByteArray) else joi zs k ++ ⟨#[44]⟩) ++ zs.getD k ByteArray.empty
theorem joi_size {zs : List ByteArray} (h : ∀ j, (zs.getD j ByteArray.empty).size ≤ 1000000) : ∀ k, (joi zs k).size ≤ 1000001 * k
  | 0 => by simp [joi, ByteArray.size]
  | k + 1 => by
    have h1 := joi_size h k
    have h2 := h k
    unfold joi
    rw [ByteArray.size_append]
    split
    · have : (⟨#[]⟩ : ByteArray).size = 0 := rfl
      omega
    · rw [ByteArray.size_append]
      have : (⟨#[44]⟩ : ByteArray).size = 1 := rfl
      omega
set_option maxRecDepth 20000 in
set_option maxHeartbeats 1000000 in
theorem Join_any (x : Option Addr) (n cap : Nat) (zs : List ByteArray) (w : World) (h : IsStrs w x n cap zs) (hn : n ≤ 100) (hz : ∀ j, (zs.getD j ByteArray.empty).size ≤ 1000000) :
    Calls Try.prog 156 #[.slice x n cap, .string ⟨#[44]⟩] w fun e w' => e = .returned (.string (joi zs n)) ∧ w = w' := by
  have hsz := Lib.hid (joi_size hz)
  have hz' := Lib.hid hz
  have hC := Lib.hid h.2.2.2.2
  clear h hz
  go_enter Try.func156, Try.ntmps156
  go_wp2_with fail
  go_loopw [5, 10] (fun s i wr => ∃ k : Nat, k ≤ n ∧ i = .int .i64 k ∧ s = .string (joi zs k) ∧ w = wr) (fun _ i _ => n - (intOf i).toNat)
  case atStart => exact ⟨0, by omega, rfl, rfl, by first | rfl | trivial⟩
  case round =>
    obtain ⟨k, hk, rfl, rfl, rfl⟩ := hrel
    by_cases hlt : k < n
    · obtain ⟨b, off, rfl, hlb, hcell⟩ : ∃ b off, x = some ⟨b, off, none⟩ ∧ b < w.heap.size ∧ w.cell? ⟨b, off + k, none⟩ = some (.string (zs.getD k ByteArray.empty)) := by
        rcases hC.out with h0 | ⟨b, off, e, hb, hc⟩
        · omega
        · exact ⟨b, off, e, hb, hc k hlt⟩
      have s1 := hsz.out k
      have s2 := hz'.out k
      have hj : Hid (joi zs (k + 1) = (if k = 0 then (⟨#[]⟩ : ByteArray) else joi zs k ++ ⟨#[44]⟩) ++ zs.getD k ByteArray.empty) := rfl
      have hj0 : Hid (k = 0 → joi zs k = ⟨#[]⟩) := fun e => by subst e; rfl
      obtain ⟨z, hz⟩ : ∃ z, zs.getD k ByteArray.empty = z := ⟨_, rfl⟩
      obtain ⟨J, hJ⟩ : ∃ J, joi zs k = J := ⟨_, rfl⟩
      rw [hz] at hcell s2 hj
      rw [hJ] at s1 hj hj0 ⊢
      have i1 : (k : Int) < (n : Int) := by omega
      have i0' : (0 : Int) ≤ (k : Int) := by omega
      have i8 : IntKind.i64.wrap ((k : Int) + 1) = (k : Int) + 1 := IntWalk.i64_in _ (by omega)
      have hr1 : ∀ w, (Op.stringOp .add J ⟨#[44]⟩).run Try.prog w = .ok (.string (J ++ ⟨#[44]⟩)) w := fun w => run_string_add_sum w J _ (by have : (⟨#[44]⟩ : ByteArray).size = 1 := rfl; omega)
      have hr2 : ∀ w, (Op.stringOp .add (J ++ ⟨#[44]⟩) z).run Try.prog w = .ok (.string ((J ++ ⟨#[44]⟩) ++ z)) w := fun w => run_string_add_sum w _ _ (by rw [ByteArray.size_append]; have : (⟨#[44]⟩ : ByteArray).size = 1 := rfl; omega)
      have hr3 : ∀ w, (Op.stringOp .add J z).run Try.prog w = .ok (.string (J ++ z)) w := fun w => run_string_add_sum w _ _ (by omega)
      clear hz hJ s1 s2
      by_cases hk0 : k = 0
      · have hk0' : ¬ (0 : Int) < (k : Int) := by omega
        have e1 : Hid (joi zs (k + 1) = J ++ z) := by show _ = _; rw [hj.out, if_pos hk0, hj0.out hk0]
        clear hk0
        go_wp2_with fail
        exact ⟨⟨k + 1, by omega, by go_num, by rw [e1.out], trivial⟩, by simp [intOf]; omega⟩
      · have hk0' : (0 : Int) < (k : Int) := by omega
        have e1 : Hid (joi zs (k + 1) = (J ++ ⟨#[44]⟩) ++ z) := by show _ = _; rw [hj.out, if_neg hk0]
        clear hk0
        go_wp2_with fail
        exact ⟨⟨k + 1, by omega, by go_num, by rw [e1.out], trivial⟩, by simp [intOf]; omega⟩
    · obtain rfl : k = n := by omega
      go_wp2_with fail
      go_ret
      exact ⟨rfl, rfl⟩
end Go.Proofs.Ytilbhingfnjppab
