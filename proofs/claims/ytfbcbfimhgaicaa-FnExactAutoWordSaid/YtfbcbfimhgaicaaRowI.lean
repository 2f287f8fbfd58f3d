/- Slices of integers: what a walk is told, and the laws' own copies and tests of them. -/
import Derived.Test.YtfbcbfimhgaicaaLawS
set_option linter.unusedSimpArgs false
set_option linter.unusedVariables false
namespace Go.Proofs.Ytfbcbfimhgaicaa
open Go.RowKit
/-- A slice of integers, wherever it lies. -/
def RI (w : World) (x : Option Addr) (n : Nat) (zs : List Int) : Prop :=
  zs.length = n ∧ n ≤ 9223372036854775807 ∧ (n = 0 ∨ ∃ b off, x = some ⟨b, off, none⟩ ∧ b < w.heap.size ∧ ∀ j, j < n → w.cell? ⟨b, off + j, none⟩ = some (.int .i64 (zs.getD j 0)))
theorem rI_cell {w : World} {x : Option Addr} {n : Nat} {zs : List Int} (h : RI w x n zs) (h0 : 0 < n) : ∃ b off, x = some ⟨b, off, none⟩ ∧ b < w.heap.size ∧ ∀ j, j < n → w.cell? ⟨b, off + j, none⟩ = some (.int .i64 (zs.getD j 0)) := by
  rcases h.2.2 with h | h
  · omega
  · exact h
theorem rI_below {w w' : World} {x : Option Addr} {n : Nat} {zs : List Int} (h : RI w x n zs) {B : Nat} (hB : w.heap.size ≤ B) (hb : Below B w w') : RI w' x n zs := by
  refine ⟨h.1, h.2.1, ?_⟩
  rcases h.2.2 with h0 | ⟨b, off, rfl, hlt, hc⟩
  · exact .inl h0
  · exact .inr ⟨b, off, rfl, Nat.lt_of_lt_of_le hlt hb.size, fun j hj => (hb.cell (by show b < B; omega)).trans (hc j hj)⟩
theorem rI_grownBy {w w' : World} {x : Option Addr} {n : Nat} {zs : List Int} {r : Option Nat} (h : RI w x n zs) (hg : w.grownBy w' r) (hx : ∀ b off, x = some ⟨b, off, none⟩ → some b ≠ r) : RI w' x n zs := by
  refine ⟨h.1, h.2.1, ?_⟩
  rcases h.2.2 with h0 | ⟨b, off, rfl, hlt, hc⟩
  · exact .inl h0
  · refine .inr ⟨b, off, rfl, Nat.lt_of_lt_of_le hlt hg.size, fun j hj => ?_⟩
    rw [hg.cell_far ⟨b, off + j, none⟩ hlt (hx b off rfl)]
    exact hc j hj
theorem rI_own {w : World} {B n cap : Nat} {x : Option Addr} {zs : List Int} (h : w.ownsRow B 3 1 (.slice x n cap) n (iv zs)) (hn : n ≤ 9223372036854775807) : RI w x n zs := by
  have hl : zs.length = n := by have := h.1; simp [iv] at this; exact this
  refine ⟨hl, hn, ?_⟩
  by_cases h0 : n = 0
  · exact .inl h0
  · right
    obtain ⟨g, c, e, hg1, hg2⟩ := World.ownsRow.form h (by omega)
    cases e
    exact ⟨g, 0, rfl, hg2, fun j hj => by rw [Nat.zero_add, own_cell h j hj, iv_at _ _ (by omega)]⟩
set_option maxHeartbeats 1000000 in
theorem eqIntS_same (x y : Option Addr) (n cap cap' : Nat) (zs : List Int) (w : World) (h : RI w x n zs) (h' : RI w y n zs) :
    Calls Try.prog 34 #[.slice x n cap, .slice y n cap'] w fun e w' => e = .returned (.bool true) ∧ Below w.heap.size w w' := by
  have hn63 : (n : Int) ≤ 9223372036854775807 := by have := h.2.1; omega
  go_enter Try.func34, Try.ntmps34
  go_wp2
  go_loopw [5] (fun i wr => ∃ k : Nat, k ≤ n ∧ i = .int .i64 k ∧ Below w.heap.size w wr) (fun i _ => n - (intOf i).toNat)
  case atStart => exact ⟨0, by omega, rfl, Below.refl _ _⟩
  case round =>
    obtain ⟨k, hk, rfl, hbel⟩ := hrel
    by_cases hlt : k < n
    · obtain ⟨b, off, rfl, hb, hc⟩ := rI_cell h (by omega)
      obtain ⟨b', off', rfl, hb', hc'⟩ := rI_cell h' (by omega)
      have hck := (hbel.cell (by exact hb)).trans (hc k hlt)
      have hck' := (hbel.cell (by exact hb')).trans (hc' k hlt)
      obtain ⟨s, hs⟩ : ∃ s, zs.getD k 0 = s := ⟨_, rfl⟩
      rw [hs] at hck hck'
      have hk0 : (0 : Int) ≤ (k : Int) := by omega
      have hk1 : (k : Int) < (n : Int) := by omega
      clear hs hc hc'
      go_wp2
      go_quiet (fail)
      go_wp2
      go_roundw
      case rel => exact ⟨k + 1, by omega, by go_num, by (repeat (first | with_reducible exact Below.refl _ _ | assumption | with_reducible refine Qdrew ?_ | with_reducible refine QdrewN ?_ | ((with_reducible refine Qset ?_ ?_); exact (by ((try simp only [World.size_alloc, World.size_setCell, World.size_drew, size_drewN]); (try dsimp only); omega))) | ((with_reducible refine Qalloc ?_ ?_); exact (by ((try simp only [World.size_alloc, World.size_setCell, World.size_drew, size_drewN]); (try dsimp only); omega))) | refine Qtrans (by assumption) (by ((try simp only [World.size_alloc, World.size_setCell, World.size_drew, size_drewN]); (try dsimp only); omega)) ?_))⟩
      case measure => (simp [intOf]) <;> omega
    · obtain rfl : k = n := by omega
      go_wp2
      go_ret
      exact ⟨rfl, hbel⟩
theorem rI_of {w : World} {x : Option Addr} {n cap : Nat} {zs : List Int} (h : IsRow .i64 w x n cap zs) : RI w x n zs := by
  refine ⟨h.1, by have h1 := h.2.1; have h2 := h.2.2.1; unfold maxLen at h2; omega, h.2.2.2.2⟩
set_option maxRecDepth 20000 in
set_option maxHeartbeats 1000000 in
theorem toIntS_any (x : Option Addr) (n cap : Nat) (zs : List Int) (w : World) (h : RI w x n zs) (hn : n ≤ 1048576) :
    Calls Try.prog 32 #[.slice x n cap] w fun e w' => ∃ g, e = .returned (.slice (some ⟨g, 0, none⟩) n n) ∧ w.heap.size ≤ g ∧ w'.ownsRow w.heap.size 3 1 (.slice (some ⟨g, 0, none⟩) n n) n (iv zs) ∧ Below w.heap.size w w' := by
  obtain ⟨i0, hi0, hz0, hz1, hz2⟩ := info_parts infoI
  go_enter Try.func32, Try.ntmps32
  go_wp2_with (at_make; refine wpList_make_full _ rfl _ _ 45 rfl w.heap.size 3 i0 _ 1 Try.underlying45 hi0 hz0 hz1 .i64 .i64 _ _ n (by rfl) (by rfl) (by omega) (by omega) (by rw [hz2]; omega) (by unfold maxLen; omega) (by omega) ?_; intro wM hownM hgM)
  have hbM : Below w.heap.size w wM := (Below.refl _ w).grown hgM (by omega) (by simp)
  have hini : (madeCells (Value.int .i64 0).cells (n * 1)).toList = iv (zs.take 0 ++ List.replicate (n - 0) 0) := by
    show (madeCells #[Value.int .i64 0] (n * 1)).toList = _
    rw [iv_zeros]; simp
  rw [hini] at hownM
  go_loopw [4] (fun i wr => ∃ k : Nat, k ≤ n ∧ i = .int .i64 k ∧ wr.ownsRow w.heap.size 3 1 (.slice (some ⟨w.heap.size, 0, none⟩) n n) n (iv (zs.take k ++ List.replicate (n - k) 0)) ∧ Below w.heap.size w wr) (fun i _ => n - (intOf i).toNat)
  case atStart => exact ⟨0, by omega, rfl, hownM, hbM⟩
  case round =>
    clear hownM hbM hini
    obtain ⟨k, hk, rfl, hown, hbel⟩ := hrel
    by_cases hlt : k < n
    · obtain ⟨b, off, rfl, hb, hc⟩ := rI_cell h (by omega)
      have hck : wr.cell? ⟨b, off + k, none⟩ = some (.int .i64 (zs.getD k 0)) := (hbel.cell (by exact hb)).trans (hc k hlt)
      have hsl := own_cell hown k hlt
      rw [iv_at _ _ (by have := h.1; simp; omega)] at hsl
      have hfz := hown.frozenAt
      have hzl := h.1
      have hst : (iv (zs.take k ++ List.replicate (n - k) 0)).set k (.int .i64 (zs.getD k 0)) = iv (zs.take (k + 1) ++ List.replicate (n - (k + 1)) 0) := by
        rw [iv_set]
        congr 1
        rw [List.set_append_right _ _ (by simp; omega), show k - (zs.take k).length = 0 by simp; omega, show n - k = (n - (k + 1)) + 1 by omega, List.replicate_succ, List.set_cons_zero, take_next zs k 0 (by omega)]
        simp
      obtain ⟨s, hs⟩ : ∃ s, zs.getD k 0 = s := ⟨_, rfl⟩
      obtain ⟨u, hu⟩ : ∃ u, (zs.take k ++ List.replicate (n - k) 0).getD k 0 = u := ⟨_, rfl⟩
      rw [hs] at hck hst
      rw [hu] at hsl
      have hst' := Lib.hid hst
      have hk0 : (0 : Int) ≤ (k : Int) := by omega
      have hk1 : (k : Int) < (n : Int) := by omega
      clear hs hst hu hzl hc
      go_wp2
      go_roundw
      case rel => exact ⟨k + 1, by omega, by go_num, by rw [← hst'.out]; exact (hown.stored k _).1, hbel.setCell (by simp) _⟩
      case measure => (simp [intOf]) <;> omega
    · obtain rfl : k = n := by omega
      go_wp2
      go_ret
      refine ⟨_, rfl, Nat.le_refl _, ?_, hbel⟩
      have : zs.take k ++ List.replicate (k - k) 0 = zs := by rw [List.take_of_length_le (by rw [h.1]; exact Nat.le_refl _)]; simp
      rw [this] at hown
      exact hown
end Go.Proofs.Ytfbcbfimhgaicaa
