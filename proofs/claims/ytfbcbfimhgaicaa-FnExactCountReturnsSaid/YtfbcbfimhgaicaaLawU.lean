/- The walks of the laws' own functions on slices of integers. -/
import Derived.Test.YtfbcbfimhgaicaaLawT
set_option linter.unusedSimpArgs false
set_option linter.unusedVariables false
namespace Go.Proofs.Ytfbcbfimhgaicaa
open Go.RowKit
/-- A slice of integers, wherever it lies. -/
def RI (w : World) (x : Option Addr) (n : Nat) (zs : List Int) : Prop :=
  zs.length = n ∧ n ≤ 9223372036854775807 ∧ (n = 0 ∨ ∃ b off, x = some ⟨b, off, none⟩ ∧ b < w.heap.size ∧ ∀ j, j < n → w.cell? ⟨b, off + j, none⟩ = some (.int .i64 (zs.getD j 0)))
theorem rI_cell {w : World} {x : Option Addr} {n : Nat} {zs : List Int} (h : RI w x n zs) (h0 : 0 < n) : ∃ b off, x = some ⟨b, off, none⟩ ∧ b < w.heap.size ∧ ∀ j, j < n → w.cell? ⟨b, off + j, none⟩ = some (.int .i64 (zs.getD j 0)) := by
  rcases h.2.2 with h | h
  · omega
  · exact h
theorem rI_below {w w' : World} {x : Option Addr} {n : Nat} {zs : List Int} (h : RI w x n zs) {B : Nat} (hB : w.heap.size ≤ B) (hb : Below B w w') : RI w' x n zs := by
  refine ⟨h.1, h.2.1, ?_⟩
  rcases h.2.2 with h0 | ⟨b, off, rfl, hlt, hc⟩
  · exact .inl h0
  · exact .inr ⟨b, off, rfl, Nat.lt_of_lt_of_le hlt hb.size, fun j hj => (hb.cell (by show b < B; omega)).trans (hc j hj)⟩
theorem rI_grownBy {w w' : World} {x : Option Addr} {n : Nat} {zs : List Int} {r : Option Nat} (h : RI w x n zs) (hg : w.grownBy w' r) (hx : ∀ b off, x = some ⟨b, off, none⟩ → some b ≠ r) : RI w' x n zs := by
  refine ⟨h.1, h.2.1, ?_⟩
  rcases h.2.2 with h0 | ⟨b, off, rfl, hlt, hc⟩
  · exact .inl h0
  · refine .inr ⟨b, off, rfl, Nat.lt_of_lt_of_le hlt hg.size, fun j hj => ?_⟩
    rw [hg.cell_far ⟨b, off + j, none⟩ hlt (hx b off rfl)]
    exact hc j hj
theorem rI_own {w : World} {B n cap : Nat} {x : Option Addr} {zs : List Int} (h : w.ownsRow B 3 1 (.slice x n cap) n (iv zs)) (hn : n ≤ 9223372036854775807) : RI w x n zs := by
  have hl : zs.length = n := by have := h.1; simp [iv] at this; exact this
  refine ⟨hl, hn, ?_⟩
  by_cases h0 : n = 0
  · exact .inl h0
  · right
    obtain ⟨g, c, e, hg1, hg2⟩ := World.ownsRow.form h (by omega)
    cases e
    exact ⟨g, 0, rfl, hg2, fun j hj => by rw [Nat.zero_add, own_cell h j hj, iv_at _ _ (by omega)]⟩
set_option maxHeartbeats 1000000 in
theorem eqIntS_same (x y : Option Addr) (n cap cap' : Nat) (zs : List Int) (w : World) (h : RI w x n zs) (h' : RI w y n zs) :
    Calls Try.prog 34 #[.slice x n cap, .slice y n cap'] w fun e w' => e = .returned (.bool true) ∧ Below w.heap.size w w' := by
  have hn63 : (n : Int) ≤ 9223372036854775807 := by have := h.2.1; omega
  go_enter Try.func34, Try.ntmps34
  go_wp2
  go_loopw [5] (fun i wr => ∃ k : Nat, k ≤ n ∧ i = .int .i64 k ∧ Below w.heap.size w wr) (fun i _ => n - (intOf i).toNat)
  case atStart => exact ⟨0, by omega, rfl, Below.refl _ _⟩
  case round =>
    obtain ⟨k, hk, rfl, hbel⟩ := hrel
    by_cases hlt : k < n
    · obtain ⟨b, off, rfl, hb, hc⟩ := rI_cell h (by omega)
      obtain ⟨b', off', rfl, hb', hc'⟩ := rI_cell h' (by omega)
      have hck := (hbel.cell (by exact hb)).trans (hc k hlt)
      have hck' := (hbel.cell (by exact hb')).trans (hc' k hlt)
      obtain ⟨s, hs⟩ : ∃ s, zs.getD k 0 = s := ⟨_, rfl⟩
      rw [hs] at hck hck'
      have hk0 : (0 : Int) ≤ (k : Int) := by omega
      have hk1 : (k : Int) < (n : Int) := by omega
      clear hs hc hc'
      go_wp2
      go_quiet (fail)
      go_wp2
      go_roundw
      case rel => exact ⟨k + 1, by omega, by go_num, by (repeat (first | with_reducible exact Below.refl _ _ | assumption | with_reducible refine Qdrew ?_ | with_reducible refine QdrewN ?_ | ((with_reducible refine Qset ?_ ?_); exact (by ((try simp only [World.size_alloc, World.size_setCell, World.size_drew, size_drewN]); (try dsimp only); omega))) | ((with_reducible refine Qalloc ?_ ?_); exact (by ((try simp only [World.size_alloc, World.size_setCell, World.size_drew, size_drewN]); (try dsimp only); omega))) | refine Qtrans (by assumption) (by ((try simp only [World.size_alloc, World.size_setCell, World.size_drew, size_drewN]); (try dsimp only); omega)) ?_))⟩
      case measure => (simp [intOf]) <;> omega
    · obtain rfl : k = n := by omega
      go_wp2
      go_ret
      exact ⟨rfl, hbel⟩
/-- The numbers from k on. -/
def mi (k n : Nat) : List Int := (List.range n).map (fun j => ((k + j : Nat) : Int))
theorem mi_len (k n : Nat) : (mi k n).length = n := by simp [mi]
theorem mi_at (k n j : Nat) (h : j < n) : (mi k n).getD j 0 = (k : Int) + j := by simp [mi, List.getD_eq_getElem?_getD, h]
theorem markI_set (zs : List Int) (k j n : Nat) (hz : zs.length = n) (h : j < n) : (mi k j ++ zs.drop j).set j ((k : Int) + j) = mi k (j + 1) ++ zs.drop (j + 1) := by
  rw [List.set_append_right _ _ (by rw [mi_len]; exact Nat.le_refl _), mi_len, Nat.sub_self, List.drop_eq_getElem_cons (by omega), List.set_cons_zero]
  simp [mi, List.range_succ]
set_option maxHeartbeats 1000000 in
theorem markIntS_any (x : Option Addr) (n cap k B : Nat) (zs : List Int) (w : World) (h : w.ownsRow B 3 1 (.slice x n cap) n (iv zs)) (hk : k + n ≤ 100000000) :
    Calls Try.prog 39 #[.slice x n cap, .int .i64 k] w fun e w' => e = .returned (.int .i64 ((k : Int) + n)) ∧ w'.ownsRow B 3 1 (.slice x n cap) n (iv (mi k n)) ∧ w.grownBy w' (Value.slice x n cap).ownBlock := by
  have hzl : zs.length = n := by have := h.1; simp [iv] at this; exact this
  go_enter Try.func39, Try.ntmps39
  go_wp2
  go_loopw [1, 5] (fun kv i wr => ∃ j : Nat, j ≤ n ∧ i = .int .i64 j ∧ kv = .int .i64 ((k : Int) + j) ∧ wr.ownsRow B 3 1 (.slice x n cap) n (iv (mi k j ++ zs.drop j)) ∧ w.grownBy wr (Value.slice x n cap).ownBlock) (fun _ i _ => n - (intOf i).toNat)
  case atStart => exact ⟨0, by omega, rfl, by simp, by simpa [mi] using h, World.grownBy.refl _ _⟩
  case round =>
    clear h
    obtain ⟨j, hj, rfl, rfl, hown, hg⟩ := hrel
    by_cases hlt : j < n
    · obtain ⟨g, c, e, _, hgl⟩ := World.ownsRow.form hown (by omega)
      cases e
      have hms' := Lib.hid (markI_set zs k j n hzl hlt)
      have hzl' := Lib.hid hzl
      clear hzl
      have hfz := hown.frozenAt
      have hcl := own_cell hown j hlt
      rw [iv_at _ _ (by rw [List.length_append, mi_len, List.length_drop, hzl'.out]; omega)] at hcl
      obtain ⟨y, hy⟩ : ∃ y, (mi k j ++ zs.drop j).getD j 0 = y := ⟨_, rfl⟩
      rw [hy] at hcl
      have hj0 : (0 : Int) ≤ (j : Int) := by omega
      have hj1 : (j : Int) < (n : Int) := by omega
      clear hy
      go_wp2
      go_roundw
      case rel => exact ⟨j + 1, by omega, by go_num, by go_num, by rw [← hms'.out, ← iv_set]; exact (hown.stored j _).1, grown_trans hg (hown.stored j _).2⟩
      case measure => (simp [intOf]) <;> omega
    · obtain rfl : n = j := by omega
      have ht : mi k n ++ zs.drop n = mi k n := by rw [List.drop_eq_nil_of_le (by omega)]; simp
      rw [ht] at hown
      go_wp2
      go_ret
      exact ⟨rfl, hown, hg⟩
set_option maxHeartbeats 1000000 in
theorem heldIntS_any (x : Option Addr) (n cap k : Nat) (w : World) (h : RI w x n (mi k n)) (hk : k + n ≤ 100000000) :
    Calls Try.prog 40 #[.slice x n cap, .int .i64 k] w fun e w' => e = .returned (.int .i64 ((k : Int) + n)) ∧ w = w' := by
  go_enter Try.func40, Try.ntmps40
  go_wp2
  go_loopw [1, 5] (fun kv i wr => ∃ j : Nat, j ≤ n ∧ i = .int .i64 j ∧ kv = .int .i64 ((k : Int) + j) ∧ w = wr) (fun _ i _ => n - (intOf i).toNat)
  case atStart => exact ⟨0, by omega, rfl, by simp, by first | rfl | trivial⟩
  case round =>
    obtain ⟨j, hj, rfl, rfl, rfl⟩ := hrel
    by_cases hlt : j < n
    · obtain ⟨b, off, rfl, hb, hc⟩ := rI_cell h (by omega)
      have hck := hc j hlt
      rw [mi_at _ _ _ hlt] at hck
      have hj0 : (0 : Int) ≤ (j : Int) := by omega
      have hj1 : (j : Int) < (n : Int) := by omega
      clear hc
      go_wp2
      go_roundw
      case rel => exact ⟨j + 1, by omega, by go_num, by go_num, by first | rfl | trivial⟩
      case measure => (simp [intOf]) <;> omega
    · obtain rfl : n = j := by omega
      go_wp2
      go_ret
      exact ⟨rfl, rfl⟩
end Go.Proofs.Ytfbcbfimhgaicaa
