/- The walks of the laws' own functions on slices of strings. -/
import Derived.Test.YtfbcbfimhgaicaaBytes
import Derived.Test.YtfbcbfimhgaicaaRowIn
import Derived.Deep.QuietTactic
import Derived.BigQuiet
set_option linter.unusedSimpArgs false
set_option linter.unusedVariables false
namespace Go.Proofs.Ytfbcbfimhgaicaa
open Go.RowKit
theorem infoS : (Try.prog.info? 9).map (fun i => (i.zero, i.size, i.bytes)) = some (some (.string ⟨#[]⟩), 1, 16) := by kernel_rfl
/-- How many letters the strings hold together. -/
def tot (zs : List ByteArray) : Nat := (zs.map ByteArray.size).sum
theorem take_next {α : Type} (l : List α) (k : Nat) (d : α) (h : k < l.length) : l.take (k + 1) = l.take k ++ [l.getD k d] := by
  rw [← List.take_append_getElem h]; simp [List.getD_eq_getElem?_getD, h]
theorem tot_take {zs : List ByteArray} {k : Nat} (h : k < zs.length) : tot (zs.take (k + 1)) = tot (zs.take k) + (zs.getD k ByteArray.empty).size := by
  unfold tot
  rw [take_next zs k ByteArray.empty h, List.map_append, List.sum_append]
  simp
theorem size_le {zs : List ByteArray} (h : ∀ s ∈ zs, s.size ≤ maxLen) (k : Nat) : (zs.getD k ByteArray.empty).size ≤ maxLen := by
  by_cases hk : k < zs.length
  · have : zs.getD k ByteArray.empty ∈ zs := by simp [List.getD_eq_getElem?_getD, hk]
    exact h _ this
  · rw [List.getD_eq_getElem?_getD, List.getElem?_eq_none (by omega)]; exact Nat.zero_le _
theorem isStrs_cell {w : World} {x : Option Addr} {n cap : Nat} {zs : List ByteArray} (h : IsStrs w x n cap zs) (h0 : 0 < n) : ∃ b off, x = some ⟨b, off, none⟩ ∧ b < w.heap.size ∧ ∀ j, j < n → w.cell? ⟨b, off + j, none⟩ = some (.string (zs.getD j ByteArray.empty)) := by
  rcases h.2.2.2.2 with h | h
  · omega
  · exact h
theorem isStrs_below {w w' : World} {x : Option Addr} {n cap : Nat} {zs : List ByteArray} (h : IsStrs w x n cap zs) {B : Nat} (hB : w.heap.size ≤ B) (hb : Below B w w') : IsStrs w' x n cap zs := by
  refine ⟨h.1, h.2.1, h.2.2.1, h.2.2.2.1, ?_⟩
  rcases h.2.2.2.2 with h0 | ⟨b, off, rfl, hlt, hc⟩
  · exact .inl h0
  · exact .inr ⟨b, off, rfl, Nat.lt_of_lt_of_le hlt hb.size, fun j hj => (hb.cell (by show b < B; omega)).trans (hc j hj)⟩
theorem isStrs_own {w : World} {B g n cap : Nat} {zs : List ByteArray} (h : w.ownsRow B 9 1 (.slice (some ⟨g, 0, none⟩) n cap) n (sv zs)) (hz : ∀ s ∈ zs, s.size ≤ maxLen) : IsStrs w (some ⟨g, 0, none⟩) n cap zs := by
  have hl : zs.length = n := by have := h.1; simp [sv] at this; exact this
  have hcap : n ≤ cap ∧ cap ≤ maxLen := by
    rcases h.2 with ⟨h', _⟩ | ⟨_, _, _, h', _, _, hc, hm, _⟩
    · cases h'
    · cases h'; exact ⟨hc, hm⟩
  refine ⟨hl, hcap.1, hcap.2, hz, .inr ⟨g, 0, rfl, (h.lt g rfl).2, fun j hj => ?_⟩⟩
  rw [Nat.zero_add, own_cell h j hj, sv_at _ _ (by omega)]
set_option maxHeartbeats 1000000 in
theorem szStringS_any (x : Option Addr) (n cap : Nat) (zs : List ByteArray) (left : Int) (w : World) (h : IsStrs w x n cap zs) (hl : 0 ≤ left ∧ left ≤ 1048576) :
    Calls Try.prog 62 #[.slice x n cap, .int .i64 left] w fun e w' => ∃ r : Int, e = .returned (.int .i64 r) ∧ (r = -1 ∨ (0 ≤ r ∧ r = left - n - tot zs)) ∧ w = w' := by
  obtain ⟨hl1, hl2⟩ := hl
  have hn63 : (n : Int) ≤ 9223372036854775807 := by have := h.2.1; have := h.2.2.1; unfold maxLen at this; omega
  by_cases hneg : left - n < 0
  · go_enter Try.func62, Try.ntmps62
    go_wp2
    go_ret
    exact ⟨-1, rfl, .inl rfl, rfl⟩
  · go_enter Try.func62, Try.ntmps62
    go_wp2
    go_loopw [1, 5] (fun lv i wr => ∃ k : Nat, k ≤ n ∧ i = .int .i64 k ∧ lv = .int .i64 (left - n - tot (zs.take k)) ∧ 0 ≤ left - n - tot (zs.take k) ∧ w = wr) (fun _ i _ => n - (intOf i).toNat)
    case atStart => exact ⟨0, by omega, rfl, by simp [tot], by simp [tot]; omega, by first | rfl | trivial⟩
    case round =>
      obtain ⟨k, hk, rfl, rfl, hge, rfl⟩ := hrel
      by_cases hlt : k < n
      · obtain ⟨b, off, rfl, hb, hc⟩ := isStrs_cell h (by omega)
        have hck := hc k hlt
        have hsz := size_le h.2.2.2.1 k
        have ht := tot_take (zs := zs) (k := k) (by have := h.1; omega)
        obtain ⟨s, hs⟩ : ∃ s, zs.getD k ByteArray.empty = s := ⟨_, rfl⟩
        rw [hs] at hck hsz ht
        obtain ⟨T, hT⟩ : ∃ T, tot (zs.take k) = T := ⟨_, rfl⟩
        rw [hT] at ht hge ⊢
        have hT' := Lib.hid hT
        have ht' := Lib.hid ht
        have hk0 : (0 : Int) ≤ (k : Int) := by omega
        have hk1 : (k : Int) < (n : Int) := by omega
        unfold maxLen at hsz
        clear hs hT ht hc
        by_cases hneg2 : left - n - T - s.size < 0
        · go_wp2
          go_ret
          exact ⟨-1, rfl, .inl rfl, rfl⟩
        · go_wp2
          go_roundw
          case rel => exact ⟨k + 1, by omega, by go_num, by rw [ht'.out]; go_num, by rw [ht'.out]; omega, by first | rfl | trivial⟩
          case measure => (simp [intOf]) <;> omega
      · obtain rfl : k = n := by omega
        go_wp2
        go_ret
        refine ⟨_, rfl, .inr ⟨hge, ?_⟩, rfl⟩
        rw [List.take_of_length_le (by rw [h.1]; exact Nat.le_refl _)]
set_option maxHeartbeats 1000000 in
theorem eqStringS_same (x y : Option Addr) (n cap cap' : Nat) (zs : List ByteArray) (w : World) (h : IsStrs w x n cap zs) (h' : IsStrs w y n cap' zs) :
    Calls Try.prog 70 #[.slice x n cap, .slice y n cap'] w fun e w' => e = .returned (.bool true) ∧ Below w.heap.size w w' := by
  go_enter Try.func70, Try.ntmps70
  go_wp2
  go_loopw [5] (fun i wr => ∃ k : Nat, k ≤ n ∧ i = .int .i64 k ∧ Below w.heap.size w wr) (fun i _ => n - (intOf i).toNat)
  case atStart => exact ⟨0, by omega, rfl, Below.refl _ _⟩
  case round =>
    obtain ⟨k, hk, rfl, hbel⟩ := hrel
    have hn63 : (n : Int) ≤ 9223372036854775807 := by have := h.2.1; have := h.2.2.1; unfold maxLen at this; omega
    by_cases hlt : k < n
    · obtain ⟨b, off, rfl, hb, hc⟩ := isStrs_cell h (by omega)
      obtain ⟨b', off', rfl, hb', hc'⟩ := isStrs_cell h' (by omega)
      have hck := (hbel.cell (by exact hb)).trans (hc k hlt)
      have hck' := (hbel.cell (by exact hb')).trans (hc' k hlt)
      obtain ⟨s, hs⟩ : ∃ s, zs.getD k ByteArray.empty = s := ⟨_, rfl⟩
      rw [hs] at hck hck'
      have hk0 : (0 : Int) ≤ (k : Int) := by omega
      have hk1 : (k : Int) < (n : Int) := by omega
      clear hs hc hc'
      go_wp2
      go_quiet (fail)
      go_wp2
      go_roundw
      case rel => exact ⟨k + 1, by omega, by go_num, by (repeat (first | with_reducible exact Below.refl _ _ | assumption | with_reducible refine Qdrew ?_ | with_reducible refine QdrewN ?_ | ((with_reducible refine Qset ?_ ?_); exact (by ((try simp only [World.size_alloc, World.size_setCell, World.size_drew, size_drewN]); (try dsimp only); omega))) | ((with_reducible refine Qalloc ?_ ?_); exact (by ((try simp only [World.size_alloc, World.size_setCell, World.size_drew, size_drewN]); (try dsimp only); omega))) | refine Qtrans (by assumption) (by ((try simp only [World.size_alloc, World.size_setCell, World.size_drew, size_drewN]); (try dsimp only); omega)) ?_))⟩
      case measure => (simp [intOf]) <;> omega
    · obtain rfl : k = n := by omega
      go_wp2
      go_ret
      exact ⟨rfl, hbel⟩
set_option maxRecDepth 20000 in
set_option maxHeartbeats 1000000 in
theorem toStringS_any (x : Option Addr) (n cap : Nat) (zs : List ByteArray) (w : World) (h : IsStrs w x n cap zs) (hn : n ≤ 1048576) :
    Calls Try.prog 67 #[.slice x n cap] w fun e w' => ∃ g, e = .returned (.slice (some ⟨g, 0, none⟩) n n) ∧ w.heap.size ≤ g ∧ w'.ownsRow w.heap.size 9 1 (.slice (some ⟨g, 0, none⟩) n n) n (sv zs) ∧ Below w.heap.size w w' := by
  obtain ⟨i0, hi0, hz0, hz1, hz2⟩ := info_parts infoS
  go_enter Try.func67, Try.ntmps67
  go_wp2_with (at_make; refine wpList_make_full _ rfl _ _ 34 rfl w.heap.size 9 i0 _ 1 Try.underlying34 hi0 hz0 hz1 .i64 .i64 _ _ n (by rfl) (by rfl) (by omega) (by omega) (by rw [hz2]; omega) (by unfold maxLen; omega) (by omega) ?_; intro wM hownM hgM)
  have hbM : Below w.heap.size w wM := (Below.refl _ w).grown hgM (by omega) (by simp)
  have hini : (madeCells (Value.string ⟨#[]⟩).cells (n * 1)).toList = sv (zs.take 0 ++ List.replicate (n - 0) ⟨#[]⟩) := by
    show (madeCells #[Value.string ⟨#[]⟩] (n * 1)).toList = _
    rw [sv_empty]; simp
  rw [hini] at hownM
  go_loopw [4] (fun i wr => ∃ k : Nat, k ≤ n ∧ i = .int .i64 k ∧ wr.ownsRow w.heap.size 9 1 (.slice (some ⟨w.heap.size, 0, none⟩) n n) n (sv (zs.take k ++ List.replicate (n - k) ⟨#[]⟩)) ∧ Below w.heap.size w wr) (fun i _ => n - (intOf i).toNat)
  case atStart => exact ⟨0, by omega, rfl, hownM, hbM⟩
  case round =>
    clear hownM hbM hini
    obtain ⟨k, hk, rfl, hown, hbel⟩ := hrel
    by_cases hlt : k < n
    · obtain ⟨b, off, rfl, hb, hc⟩ := isStrs_cell h (by omega)
      have hck : wr.cell? ⟨b, off + k, none⟩ = some (.string (zs.getD k ByteArray.empty)) := (hbel.cell (by exact hb)).trans (hc k hlt)
      have hsl := own_cell hown k hlt
      rw [sv_at _ _ (by have := h.1; simp; omega)] at hsl
      have hfz := hown.frozenAt
      have hzl := h.1
      have hst : (sv (zs.take k ++ List.replicate (n - k) ⟨#[]⟩)).set k (.string (zs.getD k ByteArray.empty)) = sv (zs.take (k + 1) ++ List.replicate (n - (k + 1)) ⟨#[]⟩) := by
        rw [sv_set]
        congr 1
        rw [List.set_append_right _ _ (by simp; omega), show k - (zs.take k).length = 0 by simp; omega, show n - k = (n - (k + 1)) + 1 by omega, List.replicate_succ, List.set_cons_zero, take_next zs k ByteArray.empty (by omega)]
        simp
      obtain ⟨s, hs⟩ : ∃ s, zs.getD k ByteArray.empty = s := ⟨_, rfl⟩
      obtain ⟨u, hu⟩ : ∃ u, (zs.take k ++ List.replicate (n - k) (⟨#[]⟩ : ByteArray)).getD k ByteArray.empty = u := ⟨_, rfl⟩
      rw [hs] at hck hst
      rw [hu] at hsl
      have hst' := Lib.hid hst
      have hk0 : (0 : Int) ≤ (k : Int) := by omega
      have hk1 : (k : Int) < (n : Int) := by omega
      clear hs hst hu hzl hc
      go_wp2
      go_roundw
      case rel => exact ⟨k + 1, by omega, by go_num, by rw [← hst'.out]; exact (hown.stored k _).1, hbel.setCell (by simp) _⟩
      case measure => (simp [intOf]) <;> omega
    · obtain rfl : k = n := by omega
      go_wp2
      go_ret
      refine ⟨_, rfl, Nat.le_refl _, ?_, hbel⟩
      have : zs.take k ++ List.replicate (k - k) ⟨#[]⟩ = zs := by rw [List.take_of_length_le (by rw [h.1]; exact Nat.le_refl _)]; simp
      rw [this] at hown
      exact hown
end Go.Proofs.Ytfbcbfimhgaicaa
