/- The laws' own tests on lists of strings. -/
import Derived.Test.YtilbhingfnjppabRtF
import Derived.Test.YtilbhingfnjppabConS
import Derived.Laws.Cover1
set_option linter.unusedSimpArgs false
set_option linter.unusedVariables false
namespace Go.Proofs.Ytilbhingfnjppab
open Go.RowKit
set_option maxRecDepth 20000 in
set_option maxHeartbeats 1000000 in
theorem in_any (x : Option Addr) (n cap : Nat) (zs : List ByteArray) (z : ByteArray) (w : World) (h : IsStrs w x n cap zs) (hn : n ≤ 1000000) (hm : z ∈ zs) :
    Calls Try.prog 25 #[.slice x n cap, .string z] w fun e w' => e = .returned (.bool true) ∧ w = w' := by
  have hl := h.1
  have hpos : 0 < n := by have := List.length_pos_of_mem hm; omega
  obtain ⟨b, off, rfl, hb, hc⟩ := isStrs_cell h hpos
  have hc' := Lib.hid hc
  have hm' := Lib.hid hm
  have hl' := Lib.hid hl
  clear hc hm hl h
  go_enter Try.func25, Try.ntmps25
  go_wp2_with fail
  go_loopw [9] (fun i wr => ∃ k : Nat, k ≤ n ∧ i = .int .i64 k ∧ Hid (∀ j, j < k → zs.getD j ByteArray.empty ≠ z) ∧ w = wr) (fun i _ => n - (intOf i).toNat)
  case atStart => exact ⟨0, by omega, rfl, Lib.hid (fun _ h => absurd h (by omega)), by first | rfl | trivial⟩
  case round =>
    obtain ⟨k, hk, rfl, hne, rfl⟩ := hrel
    by_cases hlt : k < n
    · have hck := hc'.out k hlt
      have hne1 : Hid (zs.getD k ByteArray.empty ≠ z → ∀ j, j < k + 1 → zs.getD j ByteArray.empty ≠ z) := fun h j hj => by
        by_cases e : j = k
        · subst e; exact h
        · exact hne.out j (by omega)
      obtain ⟨y, hy⟩ : ∃ y, zs.getD k ByteArray.empty = y := ⟨_, rfl⟩
      rw [hy] at hck hne1
      have i1 : (k : Int) < (n : Int) := by omega
      have i0 : (0 : Int) ≤ (k : Int) := by omega
      have i8 : IntKind.i64.wrap ((k : Int) + 1) = (k : Int) + 1 := IntWalk.i64_in _ (by omega)
      clear hy
      cases hq : (z.toList == y.toList)
      · have hne2 : Hid (∀ j, j < k + 1 → zs.getD j ByteArray.empty ≠ z) := hne1.out (fun e => by rw [e] at hq; simp at hq)
        go_wp2_with fail
        exact ⟨⟨k + 1, by omega, by go_num, hne2, by first | rfl | trivial⟩, by simp [intOf]; omega⟩
      · go_wp2_with fail
        go_ret
        exact ⟨rfl, rfl⟩
    · obtain rfl : k = n := by omega
      obtain ⟨j, hj, e⟩ := List.getElem_of_mem hm'.out
      have := hne.out j (by rw [← hl'.out]; exact hj)
      rw [List.getD_eq_getElem?_getD, List.getElem?_eq_getElem hj] at this
      exact (this e).elim
set_option maxRecDepth 20000 in
set_option maxHeartbeats 1000000 in
theorem equal_any (x y : Option Addr) (n c1 c2 : Nat) (zs : List ByteArray) (w : World) (h1 : IsStrs w x n c1 zs) (h2 : IsStrs w y n c2 zs) (hn : n ≤ 1000000) :
    Calls Try.prog 31 #[.slice x n c1, .slice y n c2] w fun e w' => e = .returned (.bool true) ∧ w = w' := by
  by_cases h0 : n = 0
  · subst h0
    clear h1 h2
    go_enter Try.func31, Try.ntmps31
    go_wp2_with fail
    go_loopw [14] (fun i wr => i = .int .i64 0 ∧ w = wr) (fun _ _ => 0)
    case atStart => exact ⟨rfl, by first | rfl | trivial⟩
    case round =>
      obtain ⟨rfl, rfl⟩ := hrel
      go_wp2
      go_ret
      exact ⟨rfl, rfl⟩
  obtain ⟨b1, o1, rfl, hb1, hc1⟩ := isStrs_cell h1 (by omega)
  obtain ⟨b2, o2, rfl, hb2, hc2⟩ := isStrs_cell h2 (by omega)
  have hc1' := Lib.hid hc1
  have hc2' := Lib.hid hc2
  clear hc1 hc2 h1 h2
  go_enter Try.func31, Try.ntmps31
  go_wp2_with fail
  go_loopw [14] (fun i wr => ∃ k : Nat, k ≤ n ∧ i = .int .i64 k ∧ w = wr) (fun i _ => n - (intOf i).toNat)
  case atStart => exact ⟨0, by omega, rfl, by first | rfl | trivial⟩
  case round =>
    obtain ⟨k, hk, rfl, rfl⟩ := hrel
    by_cases hlt : k < n
    · have hk1 := hc1'.out k hlt
      have hk2 := hc2'.out k hlt
      obtain ⟨y, hy⟩ : ∃ y, zs.getD k ByteArray.empty = y := ⟨_, rfl⟩
      rw [hy] at hk1 hk2
      have hq : (y.toList == y.toList) = true := by simp
      have i1 : (k : Int) < (n : Int) := by omega
      have i0 : (0 : Int) ≤ (k : Int) := by omega
      have i8 : IntKind.i64.wrap ((k : Int) + 1) = (k : Int) + 1 := IntWalk.i64_in _ (by omega)
      clear hy
      go_wp2_with fail
      exact ⟨⟨k + 1, by omega, by go_num, by first | rfl | trivial⟩, by simp [intOf]; omega⟩
    · obtain rfl : k = n := by omega
      go_wp2
      go_ret
      exact ⟨rfl, rfl⟩
set_option maxRecDepth 20000 in
set_option maxHeartbeats 1000000 in
theorem isFactor_any (s x : ByteArray) (m : Int) (w : World) (hs : isWB s = true) (hx : isWB x = true) (hc : Lib.contains s.data.toList x.data.toList = true) (hm : w.cell? ⟨0, 0, none⟩ = some (.int .i64 m)) :
    Calls Try.prog 29 #[.string s, .string x] w fun e w' => e = .returned (.bool true) ∧ w = w' := by
  have h1 := (isW_of hs).1
  have h2 := (isW_of hx).1
  have hC := Try.strings_Contains s x m w (by omega) hm
  rw [hc] at hC
  have c1 := fun w => isWord_any s w (by omega)
  have c2 := fun w => isWord_any x w (by omega)
  rw [hs] at c1
  rw [hx] at c2
  go_enter Try.func29, Try.ntmps29
  go_wp2_with (first | (go_at_call 62; (with_reducible refine (c1 _).mono ?_); rintro e w1 ⟨rfl, rfl⟩) | (go_at_call 62; (with_reducible refine (c2 _).mono ?_); rintro e w1 ⟨rfl, rfl⟩) | (go_at_call 74; refine hC.mono ?_; rintro e w1 ⟨rfl, rfl⟩))
  go_ret
  exact ⟨rfl, rfl⟩
end Go.Proofs.Ytilbhingfnjppab
