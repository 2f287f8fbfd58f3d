/- The walks of powers, and the law on them. -/
import Derived.Test.YtieibopegmoanaaGoldF
set_option linter.unusedSimpArgs false
set_option linter.unusedVariables false
namespace Go.Proofs.Ytieibopegmoanaa
open Go.RowKit
/-- The powers of t (or of its inverse): A and B of the k-th one. -/
def pw (neg : Bool) : Nat → Int × Int
  | 0 => (1, 0)
  | k + 1 => if neg then ((pw neg k).2 - (pw neg k).1, (pw neg k).1) else ((pw neg k).2, (pw neg k).1 + (pw neg k).2)
theorem pw_fin : ∀ (neg : Bool) (k : Fin 26), (-200000 ≤ (pw neg k.val).1 ∧ (pw neg k.val).1 ≤ 200000) ∧ (-200000 ≤ (pw neg k.val).2 ∧ (pw neg k.val).2 ≤ 200000) := by decide +kernel
theorem pw_small (neg : Bool) (k : Nat) (h : k ≤ 25) : (-200000 ≤ (pw neg k).1 ∧ (pw neg k).1 ≤ 200000) ∧ (-200000 ≤ (pw neg k).2 ∧ (pw neg k).2 ≤ 200000) := pw_fin neg ⟨k, by omega⟩
theorem pw_pos (k : Nat) : pw false (k + 1) = ((pw false k).2, (pw false k).1 + (pw false k).2) := by simp [pw]
theorem pw_neg (k : Nat) : pw true (k + 1) = ((pw true k).2 - (pw true k).1, (pw true k).1) := by simp [pw]
theorem mul_pos1 (a b : Int) (ha : -200000 ≤ a ∧ a ≤ 200000) (hb : -200000 ≤ b ∧ b ≤ 200000) : mulA a b 0 1 = b ∧ mulB a b 0 1 = a + b := by
  unfold mulA mulB
  simp only [Int.mul_zero, Int.mul_one]
  rw [wrap_in 0 (by omega), wrap_in b (by omega), wrap_in a (by omega), wrap_in (0 + b) (by omega), wrap_in (a + 0) (by omega), wrap_in (a + 0 + b) (by omega)]
  omega
theorem mul_neg1 (a b : Int) (ha : -200000 ≤ a ∧ a ≤ 200000) (hb : -200000 ≤ b ∧ b ≤ 200000) : mulA a b (-1) 1 = b - a ∧ mulB a b (-1) 1 = a := by
  unfold mulA mulB
  simp only [Int.mul_neg, Int.mul_one]
  rw [wrap_in (-a) (by omega), wrap_in b (by omega), wrap_in a (by omega), wrap_in (-a + b) (by omega), wrap_in (-b) (by omega), wrap_in (a + -b) (by omega), wrap_in (a + -b + b) (by omega)]
  omega
def pwN (n : Int) : Int × Int := pw (decide (n < 0)) n.natAbs

/-! ### The program's powers: products -/
theorem times_pos (a b : Int) (w : World) (ha : -200000 ≤ a ∧ a ≤ 200000) (hb : -200000 ≤ b ∧ b ≤ 200000) :
    Calls Try.prog 59 #[.agg #[.int .i64 (a), .int .i64 (b)], .agg #[.int .i64 (0), .int .i64 (1)]] w fun e w' => e = .returned (.agg #[.int .i64 (b), .int .i64 (a + b)]) ∧ Below w.heap.size w w' := by
  refine (times_any a b 0 1 w).mono fun e w' h => ⟨h.1.trans ?_, h.2⟩
  rw [(mul_pos1 a b ha hb).1, (mul_pos1 a b ha hb).2]
theorem times_neg (a b : Int) (w : World) (ha : -200000 ≤ a ∧ a ≤ 200000) (hb : -200000 ≤ b ∧ b ≤ 200000) :
    Calls Try.prog 59 #[.agg #[.int .i64 (a), .int .i64 (b)], .agg #[.int .i64 (-1), .int .i64 (1)]] w fun e w' => e = .returned (.agg #[.int .i64 (b - a), .int .i64 (a)]) ∧ Below w.heap.size w w' := by
  refine (times_any a b (-1) 1 w).mono fun e w' h => ⟨h.1.trans ?_, h.2⟩
  rw [(mul_neg1 a b ha hb).1, (mul_neg1 a b ha hb).2]
set_option maxHeartbeats 1000000 in
theorem implPowerPos_any (m : Int) (w : World) (hm : 0 ≤ m ∧ m ≤ 25) :
    Calls Try.prog 34 #[.int .i64 m] w fun e w' => e = .returned (.tuple #[.agg #[.int .i64 (gz (true) ((pw false m.natAbs).1)), .int .i64 (gz (true) ((pw false m.natAbs).2))], .bool (true)]) ∧ Below w.heap.size w w' := by
  have hin : inB m (-25) 25 = true := inB_true.2 ⟨by omega, by omega⟩
  obtain ⟨hm1, hm2⟩ := hm
  go_enter Try.func34, Try.ntmps34
  go_wp2_with (go_at_call 73; refine (within_any _ _ _ _).mono ?_; rintro e w1 ⟨rfl, rfl⟩)
  go_loopw [18] (fun i wx => ∃ k : Nat, (k : Int) ≤ m ∧ i = .int .i64 k ∧ (wx.cell? ⟨w.heap.size, 0, none⟩ = some (.int .i64 (0)) ∧ wx.cell? ⟨w.heap.size, 1, none⟩ = some (.int .i64 (0))) ∧ (wx.cell? ⟨w.heap.size + 1, 0, none⟩ = some (.int .i64 (0)) ∧ wx.cell? ⟨w.heap.size + 1, 1, none⟩ = some (.int .i64 (1))) ∧ (wx.cell? ⟨w.heap.size + 1 + 1, 0, none⟩ = some (.int .i64 ((pw false k).1)) ∧ wx.cell? ⟨w.heap.size + 1 + 1, 1, none⟩ = some (.int .i64 ((pw false k).2))) ∧ (∀ o, wx.frozen? ⟨w.heap.size, o, none⟩ = false) ∧ (∀ o, wx.frozen? ⟨w.heap.size + 1 + 1, o, none⟩ = false) ∧ w.heap.size + 3 ≤ wx.heap.size ∧ Below w.heap.size w wx) (fun i _ => (m - intOf i).toNat)
  case atStart => exact ⟨0, by omega, rfl, by simp [go_sem], by simp [go_sem], by simp [go_sem, pw], fun o => by simp [go_sem], fun o => by simp [go_sem], by ((try simp only [World.size_alloc, World.size_setCell, World.size_drew, size_drewN]); (try dsimp only); omega), by (repeat (first | with_reducible exact Below.refl _ _ | assumption | with_reducible refine Qdrew ?_ | with_reducible refine QdrewN ?_ | ((with_reducible refine Qset ?_ ?_); exact (by ((try simp only [World.size_alloc, World.size_setCell, World.size_drew, size_drewN]); (try dsimp only); omega))) | ((with_reducible refine Qalloc ?_ ?_); exact (by ((try simp only [World.size_alloc, World.size_setCell, World.size_drew, size_drewN]); (try dsimp only); omega))) | refine Qtrans (by assumption) (by ((try simp only [World.size_alloc, World.size_setCell, World.size_drew, size_drewN]); (try dsimp only); omega)) ?_))⟩
  case round =>
    obtain ⟨k, hk, rfl, ⟨hr0, hr1⟩, ⟨hy0, hy1⟩, ⟨ho0, ho1⟩, hf0, hf2, hz, hbel⟩ := hrel
    obtain ⟨⟨h1, h2⟩, h3, h4⟩ := pw_small false k (by omega)
    by_cases hlt : (k : Int) < m
    · have hs := Lib.hid (pw_pos k)
      go_wp2_with (go_at_call 59; refine (times_pos _ _ _ (by omega) (by omega)).mono ?_; rintro e w1 ⟨rfl, hb1⟩; have hz1 := hb1.size; (try simp at hz1); obtain ⟨hc1, hf1⟩ := bcellK (w := w) 3 hb1 (by ((try simp only [World.size_alloc, World.size_setCell, World.size_drew, size_drewN]); (try dsimp only); omega)); have hl1 := ltK (n := w.heap.size) (p := 3) (w1 := w1) (by omega); (try (have tk1 := trackAlloc hb1 (by ((try simp only [World.size_alloc, World.size_setCell, World.size_drew, size_drewN]); (try dsimp only); omega)); try simp only [World.size_alloc, World.size_drew] at tk1)); (try (have tk2 := trackAllocD hb1 (by ((try simp only [World.size_alloc, World.size_setCell, World.size_drew, size_drewN]); (try dsimp only); omega)); try simp only [World.size_alloc, World.size_drew] at tk2)); (try have tk3 := trackNext hb1 (by assumption) (by ((try simp only [World.size_alloc, World.size_setCell, World.size_drew, size_drewN]); (try dsimp only); omega))))
      go_roundw
      case rel => exact ⟨k + 1, by omega, by go_num, by simp [go_sem, *], by simp [go_sem, *], by rw [hs.out]; simp [go_sem, *], fun o => by simp [go_sem, *], fun o => by simp [go_sem, *], by ((try simp only [World.size_alloc, World.size_setCell, World.size_drew, size_drewN]); (try dsimp only); omega), by (repeat (first | with_reducible exact Below.refl _ _ | assumption | with_reducible refine Qdrew ?_ | with_reducible refine QdrewN ?_ | ((with_reducible refine Qset ?_ ?_); exact (by ((try simp only [World.size_alloc, World.size_setCell, World.size_drew, size_drewN]); (try dsimp only); omega))) | ((with_reducible refine Qalloc ?_ ?_); exact (by ((try simp only [World.size_alloc, World.size_setCell, World.size_drew, size_drewN]); (try dsimp only); omega))) | refine Qtrans (by assumption) (by ((try simp only [World.size_alloc, World.size_setCell, World.size_drew, size_drewN]); (try dsimp only); omega)) ?_))⟩
      case measure => simp [intOf]; omega
    · have hge : m ≤ (k : Int) := by omega
      have hke := Lib.hid (show k = m.natAbs by omega)
      clear hlt
      go_wp2
      refine bodyPost_ret (v := .tuple #[.agg #[.int .i64 (gz (true) ((pw false k).1)), .int .i64 (gz (true) ((pw false k).2))], .bool (true)]) (by simp [results, Try.results34, go_sem, gz, *]) rfl ⟨by rw [hke.out], by (repeat (first | with_reducible exact Below.refl _ _ | assumption | with_reducible refine Qdrew ?_ | with_reducible refine QdrewN ?_ | ((with_reducible refine Qset ?_ ?_); exact (by ((try simp only [World.size_alloc, World.size_setCell, World.size_drew, size_drewN]); (try dsimp only); omega))) | ((with_reducible refine Qalloc ?_ ?_); exact (by ((try simp only [World.size_alloc, World.size_setCell, World.size_drew, size_drewN]); (try dsimp only); omega))) | refine Qtrans (by assumption) (by ((try simp only [World.size_alloc, World.size_setCell, World.size_drew, size_drewN]); (try dsimp only); omega)) ?_))⟩
set_option maxHeartbeats 1000000 in
theorem implPowerNeg_any (m : Int) (w : World) (hm : -25 ≤ m ∧ m < 0) :
    Calls Try.prog 34 #[.int .i64 m] w fun e w' => e = .returned (.tuple #[.agg #[.int .i64 (gz (true) ((pw true m.natAbs).1)), .int .i64 (gz (true) ((pw true m.natAbs).2))], .bool (true)]) ∧ Below w.heap.size w w' := by
  have hin : inB m (-25) 25 = true := inB_true.2 ⟨by omega, by omega⟩
  obtain ⟨hm1, hm2⟩ := hm
  go_enter Try.func34, Try.ntmps34
  go_wp2_with (go_at_call 73; refine (within_any _ _ _ _).mono ?_; rintro e w1 ⟨rfl, rfl⟩)
  go_loopw [18] (fun i wx => ∃ k : Nat, (k : Int) ≤ -m ∧ i = .int .i64 k ∧ (wx.cell? ⟨w.heap.size, 0, none⟩ = some (.int .i64 (0)) ∧ wx.cell? ⟨w.heap.size, 1, none⟩ = some (.int .i64 (0))) ∧ (wx.cell? ⟨w.heap.size + 1, 0, none⟩ = some (.int .i64 (-1)) ∧ wx.cell? ⟨w.heap.size + 1, 1, none⟩ = some (.int .i64 (1))) ∧ (wx.cell? ⟨w.heap.size + 1 + 1, 0, none⟩ = some (.int .i64 ((pw true k).1)) ∧ wx.cell? ⟨w.heap.size + 1 + 1, 1, none⟩ = some (.int .i64 ((pw true k).2))) ∧ (∀ o, wx.frozen? ⟨w.heap.size, o, none⟩ = false) ∧ (∀ o, wx.frozen? ⟨w.heap.size + 1 + 1, o, none⟩ = false) ∧ w.heap.size + 3 ≤ wx.heap.size ∧ Below w.heap.size w wx) (fun i _ => (-m - intOf i).toNat)
  case atStart => exact ⟨0, by omega, rfl, by simp [go_sem], by simp [go_sem], by simp [go_sem, pw], fun o => by simp [go_sem], fun o => by simp [go_sem], by ((try simp only [World.size_alloc, World.size_setCell, World.size_drew, size_drewN]); (try dsimp only); omega), by (repeat (first | with_reducible exact Below.refl _ _ | assumption | with_reducible refine Qdrew ?_ | with_reducible refine QdrewN ?_ | ((with_reducible refine Qset ?_ ?_); exact (by ((try simp only [World.size_alloc, World.size_setCell, World.size_drew, size_drewN]); (try dsimp only); omega))) | ((with_reducible refine Qalloc ?_ ?_); exact (by ((try simp only [World.size_alloc, World.size_setCell, World.size_drew, size_drewN]); (try dsimp only); omega))) | refine Qtrans (by assumption) (by ((try simp only [World.size_alloc, World.size_setCell, World.size_drew, size_drewN]); (try dsimp only); omega)) ?_))⟩
  case round =>
    obtain ⟨k, hk, rfl, ⟨hr0, hr1⟩, ⟨hy0, hy1⟩, ⟨ho0, ho1⟩, hf0, hf2, hz, hbel⟩ := hrel
    obtain ⟨⟨h1, h2⟩, h3, h4⟩ := pw_small true k (by omega)
    by_cases hlt : (k : Int) < -m
    · have hs := Lib.hid (pw_neg k)
      go_wp2_with (go_at_call 59; refine (times_neg _ _ _ (by omega) (by omega)).mono ?_; rintro e w1 ⟨rfl, hb1⟩; have hz1 := hb1.size; (try simp at hz1); obtain ⟨hc1, hf1⟩ := bcellK (w := w) 3 hb1 (by ((try simp only [World.size_alloc, World.size_setCell, World.size_drew, size_drewN]); (try dsimp only); omega)); have hl1 := ltK (n := w.heap.size) (p := 3) (w1 := w1) (by omega); (try (have tk1 := trackAlloc hb1 (by ((try simp only [World.size_alloc, World.size_setCell, World.size_drew, size_drewN]); (try dsimp only); omega)); try simp only [World.size_alloc, World.size_drew] at tk1)); (try (have tk2 := trackAllocD hb1 (by ((try simp only [World.size_alloc, World.size_setCell, World.size_drew, size_drewN]); (try dsimp only); omega)); try simp only [World.size_alloc, World.size_drew] at tk2)); (try have tk3 := trackNext hb1 (by assumption) (by ((try simp only [World.size_alloc, World.size_setCell, World.size_drew, size_drewN]); (try dsimp only); omega))))
      go_roundw
      case rel => exact ⟨k + 1, by omega, by go_num, by simp [go_sem, *], by simp [go_sem, *], by rw [hs.out]; simp [go_sem, *], fun o => by simp [go_sem, *], fun o => by simp [go_sem, *], by ((try simp only [World.size_alloc, World.size_setCell, World.size_drew, size_drewN]); (try dsimp only); omega), by (repeat (first | with_reducible exact Below.refl _ _ | assumption | with_reducible refine Qdrew ?_ | with_reducible refine QdrewN ?_ | ((with_reducible refine Qset ?_ ?_); exact (by ((try simp only [World.size_alloc, World.size_setCell, World.size_drew, size_drewN]); (try dsimp only); omega))) | ((with_reducible refine Qalloc ?_ ?_); exact (by ((try simp only [World.size_alloc, World.size_setCell, World.size_drew, size_drewN]); (try dsimp only); omega))) | refine Qtrans (by assumption) (by ((try simp only [World.size_alloc, World.size_setCell, World.size_drew, size_drewN]); (try dsimp only); omega)) ?_))⟩
      case measure => simp [intOf]; omega
    · have hge : -m ≤ (k : Int) := by omega
      have hke := Lib.hid (show k = m.natAbs by omega)
      clear hlt
      go_wp2
      refine bodyPost_ret (v := .tuple #[.agg #[.int .i64 (gz (true) ((pw true k).1)), .int .i64 (gz (true) ((pw true k).2))], .bool (true)]) (by simp [results, Try.results34, go_sem, gz, *]) rfl ⟨by rw [hke.out], by (repeat (first | with_reducible exact Below.refl _ _ | assumption | with_reducible refine Qdrew ?_ | with_reducible refine QdrewN ?_ | ((with_reducible refine Qset ?_ ?_); exact (by ((try simp only [World.size_alloc, World.size_setCell, World.size_drew, size_drewN]); (try dsimp only); omega))) | ((with_reducible refine Qalloc ?_ ?_); exact (by ((try simp only [World.size_alloc, World.size_setCell, World.size_drew, size_drewN]); (try dsimp only); omega))) | refine Qtrans (by assumption) (by ((try simp only [World.size_alloc, World.size_setCell, World.size_drew, size_drewN]); (try dsimp only); omega)) ?_))⟩

/-! ### Every argument, and the law -/
theorem pwN_pos (n : Int) (h : 0 ≤ n) : pwN n = pw false n.natAbs := by unfold pwN; rw [decide_eq_false (by omega)]
theorem pwN_neg (n : Int) (h : n < 0) : pwN n = pw true n.natAbs := by unfold pwN; rw [decide_eq_true h]
set_option maxHeartbeats 400000 in
theorem implPower_any (n : Int) (w : World) :
    Calls Try.prog 34 #[.int .i64 n] w fun e w' => e = .returned (.tuple #[.agg #[.int .i64 (gz (inB (n) (-25) 25) ((pwN n).1)), .int .i64 (gz (inB (n) (-25) 25) ((pwN n).2))], .bool (inB (n) (-25) 25)]) ∧ Below w.heap.size w w' := by
  cases hin : inB n (-25) 25
  · go_enter Try.func34, Try.ntmps34
    go_wp2_with ((go_at_call 73; refine (within_any _ _ _ _).mono ?_; rintro e w1 ⟨rfl, rfl⟩))
    (refine bodyPost_ret (v := .tuple #[.agg #[.int .i64 (gz (false) (0)), .int .i64 (gz (false) (0))], .bool (false)]) (by simp [results, Try.results34, go_sem, cset, gz, *]) rfl ⟨by first | rfl | simp [*], ?_⟩; (repeat (first | with_reducible exact Below.refl _ _ | assumption | with_reducible refine Qdrew ?_ | with_reducible refine QdrewN ?_ | ((with_reducible refine Qset ?_ ?_); exact (by ((try simp only [World.size_alloc, World.size_setCell, World.size_drew, size_drewN]); (try dsimp only); omega))) | ((with_reducible refine Qalloc ?_ ?_); exact (by ((try simp only [World.size_alloc, World.size_setCell, World.size_drew, size_drewN]); (try dsimp only); omega))) | refine Qtrans (by assumption) (by ((try simp only [World.size_alloc, World.size_setCell, World.size_drew, size_drewN]); (try dsimp only); omega)) ?_)))
  · have hb := inB_true.1 hin
    by_cases hn : n < 0
    · rw [pwN_neg n hn]; exact implPowerNeg_any n w (by omega)
    · rw [pwN_pos n (by omega)]; exact implPowerPos_any n w (by omega)
end Go.Proofs.Ytieibopegmoanaa
