/- How many balanced words there are: the walk of the formula, and the table up to five letters. -/
import Derived.Test.YtilbhingfnjppabMFre
import Derived.Test.YtilbhingfnjppabWdf
set_option linter.unusedSimpArgs false
set_option linter.unusedVariables false
namespace Go.Proofs.Ytilbhingfnjppab
open Go.RowKit
/-- How many of the first k numbers are coprime to n. -/
def copF (n : Nat) : Nat → Nat
  | 0 => 0
  | k + 1 => copF n k + (if Nat.gcd (k + 1) n == 1 then 1 else 0)
theorem copF_le (n : Nat) : ∀ k, copF n k ≤ k
  | 0 => Nat.le_refl _
  | k + 1 => by
    have := copF_le n k
    rw [copF]; split <;> omega
def cbF (n : Nat) : Nat → Nat
  | 0 => 1
  | k + 1 => cbF n k + (n - k) * copF (k + 1) (k + 1)
set_option maxRecDepth 20000 in
set_option maxHeartbeats 1000000 in
theorem coprimes_any (n : Nat) (hn : n ≤ 12) (w : World) :
    Calls Try.prog 93 #[.int .i64 n] w fun e w' => e = .returned (.int .i64 (copF n n)) ∧ Below w.heap.size w w' := by
  go_enter Try.func93, Try.ntmps93
  go_wp2_with fail
  go_loopw [3, 4] (fun c i wr => ∃ k z : Nat, k ≤ n ∧ i = .int .i64 (k + 1 : Nat) ∧ c = .int .i64 z ∧ Hid (copF n k = z) ∧ z ≤ k ∧ Below w.heap.size w wr) (fun _ i _ => n + 1 - (intOf i).toNat)
  case atStart => exact ⟨0, 0, by omega, rfl, rfl, Lib.hid rfl, by omega, by (repeat (first | with_reducible exact Below.refl _ _ | assumption | with_reducible refine Qdrew ?_ | with_reducible refine QdrewN ?_ | ((with_reducible refine Qset ?_ ?_); exact (by ((try simp only [World.size_alloc, World.size_setCell, World.size_drew, size_drewN]); (try dsimp only); omega))) | ((with_reducible refine Qalloc ?_ ?_); exact (by ((try simp only [World.size_alloc, World.size_setCell, World.size_drew, size_drewN]); (try dsimp only); omega))) | refine Qtrans (by assumption) (by ((try simp only [World.size_alloc, World.size_setCell, World.size_drew, size_drewN]); (try dsimp only); omega)) ?_))⟩
  case round =>
    obtain ⟨k, z, hk, rfl, rfl, hz, hzk, hbel⟩ := hrel
    have hzz := hbel.size
    by_cases hlt : k < n
    · have j1 : ((k + 1 : Nat) : Int) ≤ (n : Int) := by omega
      have j1' : (k : Int) + 1 ≤ (n : Int) := by omega
      have c1 := fun w => divisor_any (k + 1) n w (by omega) (by omega)
      have hnx := Lib.hid (show copF n (k + 1) = copF n k + (if Nat.gcd (k + 1) n == 1 then 1 else 0) from rfl)
      obtain ⟨G, hG⟩ : ∃ G, Nat.gcd (k + 1) n = G := ⟨_, rfl⟩
      rw [hG] at c1
      by_cases hg : G = 1
      · have hnx' : Hid (copF n (k + 1) = z + 1) := by show _ = _; rw [hnx.out, hz.out, hG]; simp [hg]
        subst hg
        clear hnx hG
        go_wp2_with (go_at_call 86; refine (c1 _).mono ?_; rintro e w5 ⟨rfl, hb5⟩)
        exact ⟨⟨k + 1, z + 1, by omega, by go_num, by go_num, hnx', by omega, Qtrans hb5 hzz hbel⟩, by simp [intOf]; omega⟩
      · have hnx' : Hid (copF n (k + 1) = z) := by show _ = _; rw [hnx.out, hz.out, hG]; simp [hg]
        have j2 : ¬ (G : Int) = 1 := by omega
        clear hnx hG hg
        go_wp2_with (go_at_call 86; refine (c1 _).mono ?_; rintro e w5 ⟨rfl, hb5⟩)
        exact ⟨⟨k + 1, z, by omega, by go_num, by go_num, hnx', by omega, Qtrans hb5 hzz hbel⟩, by simp [intOf]; omega⟩
    · obtain rfl : k = n := by omega
      have j1 : ¬ ((k + 1 : Nat) : Int) ≤ (k : Int) := by omega
      go_wp2_with fail
      go_ret
      exact ⟨by rw [hz.out]; rfl, hbel⟩
theorem cbF_le (n : Nat) (hn : n ≤ 5) : ∀ k, k ≤ n → cbF n k ≤ 1 + 36 * k
  | 0, _ => by rw [cbF]; omega
  | k + 1, h => by
    have h1 := cbF_le n hn k (by omega)
    have h2 := copF_le (k + 1) (k + 1)
    have h3 : (n - k) * copF (k + 1) (k + 1) ≤ 6 * 6 := Nat.mul_le_mul (by omega) (by omega)
    rw [cbF]; omega
set_option maxRecDepth 20000 in
set_option maxHeartbeats 1000000 in
theorem CountBalanced_any (n : Nat) (hn : n ≤ 5) (w : World) :
    Calls Try.prog 56 #[.int .i64 n] w fun e w' => e = .returned (.int .i64 (cbF n n)) ∧ Below w.heap.size w w' := by
  have hIn : ∀ w, Calls Try.prog 65 #[.int .i64 n, .int .i64 0, .int .i64 12] w fun e w' => e = .returned (.bool true) ∧ w = w' := fun w => by
    have := within_any (n : Int) 0 12 w
    rwa [inB_true.2 (by omega)] at this
  go_enter Try.func56, Try.ntmps56
  go_wp2_with (go_at_call 65; (with_reducible refine (hIn _).mono ?_); rintro e w1 ⟨rfl, rfl⟩)
  go_loopw [3, 4] (fun c i wr => ∃ k z : Nat, k ≤ n ∧ i = .int .i64 (k + 1 : Nat) ∧ c = .int .i64 z ∧ Hid (cbF n k = z) ∧ z ≤ 400 ∧ Below w.heap.size w wr) (fun _ i _ => n + 1 - (intOf i).toNat)
  case atStart => exact ⟨0, 1, by omega, rfl, rfl, Lib.hid rfl, by omega, by (repeat (first | with_reducible exact Below.refl _ _ | assumption | with_reducible refine Qdrew ?_ | with_reducible refine QdrewN ?_ | ((with_reducible refine Qset ?_ ?_); exact (by ((try simp only [World.size_alloc, World.size_setCell, World.size_drew, size_drewN]); (try dsimp only); omega))) | ((with_reducible refine Qalloc ?_ ?_); exact (by ((try simp only [World.size_alloc, World.size_setCell, World.size_drew, size_drewN]); (try dsimp only); omega))) | refine Qtrans (by assumption) (by ((try simp only [World.size_alloc, World.size_setCell, World.size_drew, size_drewN]); (try dsimp only); omega)) ?_))⟩
  case round =>
    obtain ⟨k, z, hk, rfl, rfl, hz, hzk, hbel⟩ := hrel
    have hzz := hbel.size
    by_cases hlt : k < n
    · have j1 : ((k + 1 : Nat) : Int) ≤ (n : Int) := by omega
      have j1' : (k : Int) + 1 ≤ (n : Int) := by omega
      have c1 := fun w => coprimes_any (k + 1) (by omega) w
      have hnx := Lib.hid (show cbF n (k + 1) = cbF n k + (n - k) * copF (k + 1) (k + 1) from rfl)
      have hle := cbF_le n hn (k + 1) (by omega)
      rw [hnx.out, hz.out] at hle
      have h2 := copF_le (k + 1) (k + 1)
      generalize copF (k + 1) (k + 1) = C at *
      have i1 : IntKind.i64.wrap ((n : Int) - ((k : Int) + 1)) = ((n - k : Nat) : Int) - 1 := by rw [IntWalk.i64_in _ (by omega)]; omega
      have i2 : IntKind.i64.wrap (((n - k : Nat) : Int) - 1 + 1) = ((n - k : Nat) : Int) := by rw [IntWalk.i64_in _ (by omega)]; omega
      have i3 : IntKind.i64.wrap ((n : Int) - ((k : Int) + 1) + 1) = ((n - k : Nat) : Int) := by rw [IntWalk.i64_in _ (by omega)]; omega
      generalize hM : n - k = M at *
      have m1 : M * C ≤ 6 * 6 := Nat.mul_le_mul (by omega) (by omega)
      have i4 : IntKind.i64.wrap ((M : Int) * (C : Int)) = ((M * C : Nat) : Int) := by rw [← Int.natCast_mul, IntWalk.i64_in _ (by omega)]
      have hnx' : Hid (cbF n (k + 1) = z + M * C) := by show _ = _; rw [hnx.out, hz.out]
      generalize M * C = X at *
      have i6 : IntKind.i64.wrap (M : Int) = (M : Int) := IntWalk.i64_in _ (by omega)
      have i5 : IntKind.i64.wrap ((z : Int) + (X : Int)) = (z : Int) + (X : Int) := IntWalk.i64_in _ (by omega)
      clear hnx hM
      go_wp2_with (go_at_call 93; refine (c1 _).mono ?_; rintro e w5 ⟨rfl, hb5⟩)
      exact ⟨⟨k + 1, z + X, by omega, by go_num, by go_num, hnx', by omega, Qtrans hb5 hzz hbel⟩, by simp [intOf]; omega⟩
    · obtain rfl : k = n := by omega
      have j1 : ¬ ((k + 1 : Nat) : Int) ≤ (k : Int) := by omega
      go_wp2_with fail
      go_ret
      exact ⟨by rw [hz.out]; rfl, hbel⟩
/-! ### The table -/
def balC (s : ByteArray) : Bool := (List.range s.size).all fun n => decide (hiS s (n + 1) ≤ loS s (n + 1) + 1)
theorem balC_iff (s : ByteArray) : balC s = true ↔ balP s := by
  unfold balC balP
  rw [List.all_eq_true]
  constructor
  · intro h n h1 h2
    have := h (n - 1) (List.mem_range.2 (by omega))
    rw [show n - 1 + 1 = n by omega] at this
    exact of_decide_eq_true this
  · intro h n hn
    exact decide_eq_true (h (n + 1) (by omega) (by have := List.mem_range.1 hn; omega))
theorem balB_C {s : ByteArray} (h : binB s = true) : balB s = balC s := by
  cases hc : balC s
  · have hn : ¬ balP s := fun q => by rw [(balC_iff s).2 q] at hc; cases hc
    simp [balB, h, hn]
  · have hn : balP s := (balC_iff s).1 hc
    simp [balB, h, hn]
def binC (s : ByteArray) : Bool := s.data.toList.all fun b => b.toNat == 97 || b.toNat == 98
theorem binC_bin {s : ByteArray} (h4 : s.size ≤ 400) (h : binC s = true) : binB s = true := by
  have hb : ∀ j, j < s.size → bt s j = 97 ∨ bt s j = 98 := fun j hj => by
    have hj' : j < s.data.toList.length := by simpa using hj
    have := (List.all_eq_true.1 h) s.data.toList[j] (List.getElem_mem _)
    rw [byteAt_bt s j hj]
    unfold byteAt
    rw [List.getD_eq_getElem?_getD, List.getElem?_eq_getElem hj', Option.getD_some]
    simp only [Bool.or_eq_true, beq_iff_eq] at this
    omega
  have hw : isWP s := ⟨h4, fun j hj => by
    have := hb j hj
    unfold inL
    omega⟩
  unfold binB
  rw [isWB_true hw, Bool.true_and]
  exact wiB_true (fun j hj => by
    have h1 := hb j hj
    obtain ⟨h2, h3⟩ := lt_eq (hw.2 j hj)
    omega)
def cntP (n : Nat) (y : ByteArray) : Bool := y.size == n && balC y
theorem table5 : ((List.range 6).all fun n => ((wds 2 n).all fun y => decide (y.size ≤ 5) && binC y) && (((wds 2 n).filter (cntP n)).length == cbF n n)) = true := by decide +kernel
theorem table5_at {n : Nat} (hn : n ≤ 5) : (∀ y ∈ wds 2 n, y.size ≤ 5 ∧ binB y = true) ∧ ((wds 2 n).filter (cntP n)).length = cbF n n := by
  have h := (List.all_eq_true.1 table5) n (List.mem_range.2 (by omega))
  rw [Bool.and_eq_true, List.all_eq_true, beq_iff_eq] at h
  refine ⟨fun y hy => ?_, h.2⟩
  have := h.1 y hy
  rw [Bool.and_eq_true, decide_eq_true_eq] at this
  exact ⟨this.1, binC_bin (by omega) this.2⟩
end Go.Proofs.Ytilbhingfnjppab
