/- The walks of the different return words. -/
import Derived.Test.YtilbhingfnjppabWordsD
import Derived.Lib.SlicesS
set_option linter.unusedSimpArgs false
set_option linter.unusedVariables false
namespace Go.Proofs.Ytilbhingfnjppab
open Go.RowKit
attribute [local go_sem ↓] Go.wp_at_zero Go.wp_at_succ
theorem contains_any (y : Option Addr) (n cap : Nat) (zs : List ByteArray) (x : ByteArray) (w : World) (h : IsStrs w y n cap zs) :
    Calls Try.prog 102 #[.slice y n cap, .string x] w fun e w' => e = .returned (.bool (Lib.containsS zs x)) ∧ w = w' := by
  have hn63 : n ≤ 9223372036854775807 := by have := h.2.1; have := h.2.2.1; unfold maxLen at this; omega
  rcases h.2.2.2.2 with h0 | ⟨b, off, rfl, hb, hc⟩
  · subst h0
    have : zs = [] := List.length_eq_zero_iff.1 h.1
    subst this
    exact (Try.slices_Contains_string_empty y cap x w).mono fun e w' q => ⟨q.1, q.2.symm⟩
  · refine (Try.slices_Contains_string b off n cap zs x w (by rw [h.1]; exact Nat.le_refl _) hn63 (fun j hj => hc j (by rw [← h.1]; exact hj))).mono fun e w' q => ⟨q.1.trans ?_, q.2.symm⟩
    rw [List.take_of_length_le (by rw [h.1]; exact Nat.le_refl _)]
theorem index_any (y : Option Addr) (n cap : Nat) (zs : List ByteArray) (x : ByteArray) (w : World) (h : IsStrs w y n cap zs) :
    Calls Try.prog 73 #[.slice y n cap, .string x] w fun e w' => e = .returned (.int .i64 (Lib.idxOfS zs x)) ∧ w = w' := by
  have hn63 : n ≤ 9223372036854775807 := by have := h.2.1; have := h.2.2.1; unfold maxLen at this; omega
  rcases h.2.2.2.2 with h0 | ⟨b, off, rfl, hb, hc⟩
  · subst h0
    have : zs = [] := List.length_eq_zero_iff.1 h.1
    subst this
    exact (Try.slices_Index_string_empty y cap x w).mono fun e w' q => ⟨q.1, q.2.symm⟩
  · refine (Try.slices_Index_string b off n cap zs x w (by rw [h.1]; exact Nat.le_refl _) hn63 (fun j hj => hc j (by rw [← h.1]; exact hj))).mono fun e w' q => ⟨q.1.trans ?_, q.2.symm⟩
    rw [List.take_of_length_le (by rw [h.1]; exact Nat.le_refl _)]
theorem ins_in {o : List ByteArray} {x : ByteArray} (h : Lib.containsS o x = true) : ins o x = o := by simp [ins, (Lib.containsS_iff o x).1 h]
theorem ins_out {o : List ByteArray} {x : ByteArray} (h : Lib.containsS o x = false) : ins o x = o ++ [x] := by
  have : x ∉ o := fun q => by rw [(Lib.containsS_iff o x).2 q] at h; cases h
  simp [ins, this]
theorem dd_take (zs : List ByteArray) (k : Nat) (h : k < zs.length) : dd (zs.take (k + 1)) = ins (dd (zs.take k)) (zs.getD k ByteArray.empty) := by
  rw [take_next zs k ByteArray.empty h, dd_next]
theorem dd_small {zs : List ByteArray} (h : ∀ s ∈ zs, s.size ≤ maxLen) : ∀ z ∈ dd zs, z.size ≤ maxLen := fun z hz => h z ((mem_dd zs z).1 hz)
theorem take_small {zs : List ByteArray} (h : ∀ s ∈ zs, s.size ≤ maxLen) (k : Nat) : ∀ z ∈ zs.take k, z.size ≤ maxLen := fun z hz => h z (List.mem_of_mem_take hz)
theorem ddl (zs : List ByteArray) : (dd zs).length ≤ zs.length := by have := dd_len zs []; simpa [dd] using this
set_option maxRecDepth 20000 in
set_option maxHeartbeats 2000000 in
theorem firsts_any (y : Option Addr) (n cap0 : Nat) (zs : List ByteArray) (w : World) (h : IsStrs w y n cap0 zs) (hn : n ≤ 1048576) :
    Calls Try.prog 70 #[.slice y n cap0] w fun e w' => ∃ g cap, e = .returned (.slice (some ⟨g, 0, none⟩) (dd zs).length cap) ∧ RowS w' w.heap.size (some ⟨g, 0, none⟩) cap (dd zs) ∧ Below w.heap.size w w' := by
  obtain ⟨i0, hi0, hz0, hz1, hz2⟩ := info_parts infoS
  have hlen := h.1
  go_enter Try.func70, Try.ntmps70
  go_wp2
  go_loopw [3, 9] (fun out i wr => ∃ k g cap : Nat, k ≤ n ∧ i = .int .i64 k ∧ out = .slice (some ⟨g, 0, none⟩) (dd (zs.take k)).length cap ∧ RowS wr w.heap.size (some ⟨g, 0, none⟩) cap (dd (zs.take k)) ∧ w.heap.size ≤ wr.heap.size ∧ Below w.heap.size w wr) (fun _ i _ => n - (intOf i).toNat)
  case atStart => exact ⟨0, w.heap.size, 0, by omega, rfl, rfl, World.ownsRow_lit w #[] 0 (Nat.le_refl _) (by decide) rfl, by ((try simp only [World.size_alloc, World.size_setCell, World.size_drew, size_drewN]); (try dsimp only); omega), by (repeat (first | with_reducible exact Below.refl _ _ | assumption | with_reducible refine Qdrew ?_ | with_reducible refine QdrewN ?_ | ((with_reducible refine Qset ?_ ?_); exact (by ((try simp only [World.size_alloc, World.size_setCell, World.size_drew, size_drewN]); (try dsimp only); omega))) | ((with_reducible refine Qalloc ?_ ?_); exact (by ((try simp only [World.size_alloc, World.size_setCell, World.size_drew, size_drewN]); (try dsimp only); omega))) | refine Qtrans (by assumption) (by ((try simp only [World.size_alloc, World.size_setCell, World.size_drew, size_drewN]); (try dsimp only); omega)) ?_))⟩
  case round =>
    obtain ⟨k, g, cap, hk, rfl, rfl, hown, hz, hbel⟩ := hrel
    by_cases hlt : k < n
    · obtain ⟨b, off, rfl, hb, hc⟩ := isStrs_cell h (by omega)
      have hck : wr.cell? ⟨b, off + k, none⟩ = some (.string (zs.getD k ByteArray.empty)) := (hbel.cell (by exact hb)).trans (hc k hlt)
      have hnext := dd_take zs k (by omega)
      have hdl := ddl (zs.take k)
      have htl : (zs.take k).length = k := by simp; omega
      have hst := rowS_strs hown (dd_small (take_small h.2.2.2.1 k))
      obtain ⟨s, hs⟩ : ∃ s, zs.getD k ByteArray.empty = s := ⟨_, rfl⟩
      obtain ⟨D, hD⟩ : ∃ D, dd (zs.take k) = D := ⟨_, rfl⟩
      rw [hs] at hck hnext
      rw [hD] at hnext hown hst hdl ⊢
      rw [htl] at hdl
      have hk0 : (0 : Int) ≤ (k : Int) := by omega
      have hk1 : (k : Int) < (n : Int) := by omega
      have hD' := Lib.hid hD
      clear hs hD hc htl
      cases hin : Lib.containsS D s
      · rw [ins_out hin] at hnext
        have hnext' := Lib.hid hnext
        clear hnext
        have hown' : wr.ownsRow w.heap.size 9 1 (.slice (some ⟨g, 0, none⟩) D.length cap) D.length (sv D) := hown
        go_wp2_with (first | (go_at_call 102; refine (contains_any _ _ _ _ _ _ hst).mono ?_; rintro e w1 ⟨rfl, rfl⟩) | (at_builtin; refine wpList_append_lies _ rfl _ _ _ rfl (w.heap.size) 9 i0 _ 1 16 Try.underlying23 hi0 hz0 hz1 hz2 rfl (by decide) (.slice (some ⟨g, 0, none⟩) D.length cap) (D.length) (sv D) (by rfl) (hown'.alloc _) ⟨(wr).heap.size, 0, none⟩ 1 1 [.string s] (by rfl) (by rfl) (World.news_of_block (cs := #[.string s]) (t := 9) (fr := (0, 0)) (heap_alloc_new (wr) _)) (by simp [Value.oneCell']) (by omega) (by unfold maxLen; omega) (by omega) (by simp; omega) ((wr).heap.size + 1) (by simp) ?_; intro gg cap w1 hown1 hgrow hatg hltg))
        go_roundw
        case rel => exact ⟨k + 1, gg, _, by omega, by go_num, by rw [hnext'.out, List.length_append]; rfl, rowS_mk hown1 (by rw [hnext'.out, List.length_append]; rfl) (by rw [hnext'.out, sv_snoc]), by have := size_app hgrow; omega, below_app hbel hz hown' hgrow⟩
        case measure => (simp [intOf]) <;> omega
      · rw [ins_in hin] at hnext
        have hnext' := Lib.hid hnext
        clear hnext
        go_wp2_with (first | (go_at_call 102; refine (contains_any _ _ _ _ _ _ hst).mono ?_; rintro e w1 ⟨rfl, rfl⟩))
        go_roundw
        case rel => exact ⟨k + 1, g, cap, by omega, by go_num, by rw [hnext'.out], by rw [hnext'.out]; exact hown, hz, hbel⟩
        case measure => (simp [intOf]) <;> omega
    · obtain rfl : n = k := by omega
      have ht : zs.take n = zs := List.take_of_length_le (by omega)
      rw [ht] at hown ⊢
      go_wp2
      go_ret
      exact ⟨g, cap, rfl, hown, hbel⟩
end Go.Proofs.Ytilbhingfnjppab
