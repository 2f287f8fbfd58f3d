/- The walks of the tests on words. -/
import Derived.Test.YtilbhingfnjppabBytes
import Derived.Test.YtilbhingfnjppabIn
set_option linter.unusedSimpArgs false
set_option linter.unusedVariables false
namespace Go.Proofs.Ytilbhingfnjppab
open Go.RowKit
/-- A letter at a place; a word. -/
def inL (s : ByteArray) (j : Nat) : Prop := 97 ≤ bt s j ∧ bt s j ≤ 100
def isWP (s : ByteArray) : Prop := s.size ≤ 400 ∧ ∀ j, j < s.size → inL s j
open Classical in
noncomputable def isWB (s : ByteArray) : Bool := decide (isWP s)
theorem isWB_true {s : ByteArray} (h : isWP s) : isWB s = true := by simp [isWB, h]
theorem isWB_false {s : ByteArray} (h : ¬ isWP s) : isWB s = false := by simp [isWB, h]
theorem isW_of {s : ByteArray} (h : isWB s = true) : isWP s := by simpa [isWB] using h
theorem isW_not {s : ByteArray} (h : isWB s = false) : ¬ isWP s := by simpa [isWB] using h
theorem isWB_no {s : ByteArray} {k : Nat} (hk : k < s.size) (h : ¬ inL s k) : isWB s = false := isWB_false (fun q => h (q.2 k hk))
theorem inL_next {s : ByteArray} {k : Nat} (h : ∀ j, j < k → inL s j) (hk : inL s k) : ∀ j, j < k + 1 → inL s j := fun j hj => by
  by_cases e : j = k
  · subst e; exact hk
  · exact h j (by omega)
/-- The number of a letter. -/
def lt (s : ByteArray) (j : Nat) : Nat := (bt s j - 97).toNat
theorem lt_eq {s : ByteArray} {j : Nat} (h : inL s j) : bt s j = (lt s j : Int) + 97 ∧ lt s j ≤ 3 := by
  obtain ⟨h1, h2⟩ := h; unfold lt; omega
theorem u8_small (n : Nat) (h : n ≤ 255) : IntKind.u8.wrap (n : Int) = (n : Int) := by
  simp [IntKind.wrap, IntKind.bits, IntKind.signed]; omega
open Classical in
noncomputable def wiB (n : Nat) (s : ByteArray) : Bool := decide (∀ j, j < s.size → lt s j < n)
theorem wiB_true {n : Nat} {s : ByteArray} (h : ∀ j, j < s.size → lt s j < n) : wiB n s = true := decide_eq_true h
theorem wiB_no {n k : Nat} {s : ByteArray} (hk : k < s.size) (h : ¬ lt s k < n) : wiB n s = false := decide_eq_false (fun q => h (q k hk))
theorem wi_of {n : Nat} {s : ByteArray} (h : wiB n s = true) : ∀ j, j < s.size → lt s j < n := of_decide_eq_true h
theorem wi_not {n : Nat} {s : ByteArray} (h : wiB n s = false) : ¬ ∀ j, j < s.size → lt s j < n := of_decide_eq_false h
set_option maxRecDepth 20000 in
set_option maxHeartbeats 1000000 in
theorem specWordOk_any (s : ByteArray) (w : World) (hsz : s.size ≤ 9223372036854775807) :
    Calls Try.prog 116 #[.string s] w fun e w' => e = .returned (.bool (isWB s)) ∧ w = w' := by
  have hb : ∀ j (h : j < s.size), ((s[j]'h).toNat : Int) = bt s j := fun j h => bt_eq s j h
  by_cases h400 : 400 < s.size
  · have h400' : (400 : Int) < (s.size : Int) := by omega
    have hf := Lib.hid (isWB_false (s := s) (fun h => by have := h.1; omega))
    go_enter Try.func116, Try.ntmps116
    go_wp2
    go_ret
    exact ⟨by rw [hf.out]; rfl, rfl⟩
  have h400' : ¬ (400 : Int) < (s.size : Int) := by omega
  go_enter Try.func116, Try.ntmps116
  go_wp2
  go_loopw [3] (fun i wr => ∃ k : Nat, k ≤ s.size ∧ i = .int .i64 k ∧ Hid (∀ j, j < k → inL s j) ∧ w = wr) (fun i _ => s.size - (intOf i).toNat)
  case atStart => exact ⟨0, by omega, rfl, Lib.hid (fun _ h => absurd h (by omega)), by first | rfl | trivial⟩
  case round =>
    obtain ⟨k, hk, rfl, hall, rfl⟩ := hrel
    by_cases hlt : k < s.size
    · have hlt' : (k : Int) < (s.size : Int) := by omega
      have hk0 : (0 : Int) ≤ (k : Int) := by omega
      by_cases h1 : bt s k < 97
      · have hf := Lib.hid (isWB_no hlt (fun h => by have := h.1; omega))
        go_wp2
        go_ret
        exact ⟨by rw [hf.out]; rfl, rfl⟩
      · by_cases h2 : 100 < bt s k
        · have hf := Lib.hid (isWB_no hlt (fun h => by have := h.2; omega))
          go_wp2
          go_ret
          exact ⟨by rw [hf.out]; rfl, rfl⟩
        · have hok := Lib.hid (show inL s k from ⟨by omega, by omega⟩)
          go_wp2
          go_roundw
          case rel => exact ⟨k + 1, by omega, by go_num, Lib.hid (inL_next hall.out hok.out), by first | rfl | trivial⟩
          case measure => (simp [intOf]) <;> omega
    · obtain rfl : k = s.size := by omega
      have hf := Lib.hid (isWB_true (s := s) ⟨by omega, hall.out⟩)
      go_wp2
      go_ret
      exact ⟨by rw [hf.out]; rfl, rfl⟩
set_option maxRecDepth 20000 in
set_option maxHeartbeats 1000000 in
theorem isWord_any (s : ByteArray) (w : World) (hsz : s.size ≤ 9223372036854775807) :
    Calls Try.prog 62 #[.string s] w fun e w' => e = .returned (.bool (isWB s)) ∧ w = w' := by
  have hb : ∀ j (h : j < s.size), ((s[j]'h).toNat : Int) = bt s j := fun j h => bt_eq s j h
  skip
  go_enter Try.func62, Try.ntmps62
  go_wp2
  go_loopw [6] (fun i wr => ∃ k : Nat, k ≤ s.size ∧ i = .int .i64 k ∧ Hid (∀ j, j < k → inL s j) ∧ w = wr) (fun i _ => s.size - (intOf i).toNat)
  case atStart => exact ⟨0, by omega, rfl, Lib.hid (fun _ h => absurd h (by omega)), by first | rfl | trivial⟩
  case round =>
    obtain ⟨k, hk, rfl, hall, rfl⟩ := hrel
    by_cases hlt : k < s.size
    · have hlt' : (k : Int) < (s.size : Int) := by omega
      have hk0 : (0 : Int) ≤ (k : Int) := by omega
      by_cases h1 : bt s k < 97
      · have hf := Lib.hid (isWB_no hlt (fun h => by have := h.1; omega))
        go_wp2
        go_ret
        exact ⟨by rw [hf.out]; rfl, rfl⟩
      · by_cases h2 : 100 < bt s k
        · have hf := Lib.hid (isWB_no hlt (fun h => by have := h.2; omega))
          go_wp2
          go_ret
          exact ⟨by rw [hf.out]; rfl, rfl⟩
        · have hok := Lib.hid (show inL s k from ⟨by omega, by omega⟩)
          go_wp2
          go_roundw
          case rel => exact ⟨k + 1, by omega, by go_num, Lib.hid (inL_next hall.out hok.out), by first | rfl | trivial⟩
          case measure => (simp [intOf]) <;> omega
    · obtain rfl : k = s.size := by omega
      have hf : Hid (isWB s = decide ((s.size : Int) ≤ 400)) := by
        by_cases h4 : s.size ≤ 400
        · rw [decide_eq_true (by omega)]; exact isWB_true ⟨h4, hall.out⟩
        · rw [decide_eq_false (by omega)]; exact isWB_false (fun h => h4 h.1)
      go_wp2
      go_ret
      exact ⟨by rw [hf.out]; rfl, rfl⟩
set_option maxRecDepth 20000 in
set_option maxHeartbeats 1000000 in
theorem l03Within_any (n : Nat) (s : ByteArray) (w : World) (hw : isWP s) (hn : n ≤ 1048576) :
    Calls Try.prog 117 #[.int .i64 n, .string s] w fun e w' => e = .returned (.bool (wiB n s)) ∧ w = w' := by
  have hb : ∀ j (h : j < s.size), ((s[j]'h).toNat : Int) = bt s j := fun j h => bt_eq s j h
  have hsz := hw.1
  go_enter Try.func117, Try.ntmps117
  go_wp2
  go_loopw [5] (fun i wr => ∃ k : Nat, k ≤ s.size ∧ i = .int .i64 k ∧ Hid (∀ j, j < k → lt s j < n) ∧ w = wr) (fun i _ => s.size - (intOf i).toNat)
  case atStart => exact ⟨0, by omega, rfl, Lib.hid (fun _ h => absurd h (by omega)), by first | rfl | trivial⟩
  case round =>
    obtain ⟨k, hk, rfl, hall, rfl⟩ := hrel
    by_cases hlt : k < s.size
    · have hlt' : (k : Int) < (s.size : Int) := by omega
      have hk0 : (0 : Int) ≤ (k : Int) := by omega
      obtain ⟨he, hl3⟩ := lt_eq (hw.2 k hlt)
      obtain ⟨l, hl⟩ : ∃ l, lt s k = l := ⟨_, rfl⟩
      rw [hl] at he hl3
      have hl' := Lib.hid hl
      have hu := u8_small l (by omega)
      clear hl
      by_cases hln : l < n
      · have hln' : ¬ (n : Int) ≤ (l : Int) := by omega
        go_wp2
        go_roundw
        case rel => exact ⟨k + 1, by omega, by go_num, Lib.hid (fun j hj => by
            by_cases e : j = k
            · subst e; rw [hl'.out]; exact hln
            · exact hall.out j (by omega)), by first | rfl | trivial⟩
        case measure => (simp [intOf]) <;> omega
      · have hln' : (n : Int) ≤ (l : Int) := by omega
        have hf := Lib.hid (wiB_no (n := n) hlt (by rw [hl'.out]; exact hln))
        go_wp2
        go_ret
        exact ⟨by rw [hf.out]; rfl, rfl⟩
    · obtain rfl : k = s.size := by omega
      have hf := Lib.hid (wiB_true (n := n) (s := s) hall.out)
      go_wp2
      go_ret
      exact ⟨by rw [hf.out]; rfl, rfl⟩
end Go.Proofs.Ytilbhingfnjppab
