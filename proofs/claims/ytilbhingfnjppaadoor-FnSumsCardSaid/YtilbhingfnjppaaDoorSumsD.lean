/- The walks of the test on numerals. -/
import Derived.Test.YtilbhingfnjppaaDoorSumsA
import Derived.Test.YtilbhingfnjppaaDoorBase2
set_option linter.unusedSimpArgs false
set_option linter.unusedVariables false
namespace Go.Proofs.YtilbhingfnjppaaDoor
open Go.RowKit
def ok2 (s : ByteArray) (j : Nat) : Prop := okAt s j ∧ (j = 0 → bt s 0 = 49)
theorem nok_no {s : ByteArray} {k : Nat} (hk : k < s.size) (h : ¬ ok2 s k) : nokB s = false := nokB_false (fun hn => h ⟨hn.2.2 k hk, fun _ => hn.2.1 (by omega)⟩)
theorem nok_yes {s : ByteArray} (h60 : s.size ≤ 60) (h : ∀ j, j < s.size → ok2 s j) : nokB s = true := nokB_true ⟨h60, fun h0 => (h 0 h0).2 rfl, fun j hj => (h j hj).1⟩
theorem ok_next {s : ByteArray} {k : Nat} (h : ∀ j, j < k → ok2 s j) (hk : ok2 s k) : ∀ j, j < k + 1 → ok2 s j := fun j hj => by
  by_cases e : j = k
  · subst e; exact hk
  · exact h j (by omega)
set_option maxRecDepth 20000 in
set_option maxHeartbeats 2000000 in
theorem implNumeralOk_any (s : ByteArray) (w : World) (hsz : s.size ≤ 9223372036854775807) :
    Calls Tryd.prog 39 #[.string s] w fun e w' => e = .returned (.bool (nokB s)) ∧ w = w' := by
  have hb : ∀ j (h : j < s.size), ((s[j]'h).toNat : Int) = bt s j := fun j h => bt_eq s j h
  all_goals
    go_enter Tryd.func39, Tryd.ntmps39
    go_wp2
    go_loopw [6] (fun i wr => ∃ k : Nat, k ≤ s.size ∧ i = .int .i64 k ∧ Hid (∀ j, j < k → ok2 s j) ∧ w = wr) (fun i _ => s.size - (intOf i).toNat)
    case atStart => exact ⟨0, by omega, rfl, Lib.hid (fun _ h => absurd h (by omega)), by first | rfl | trivial⟩
    case round =>
      obtain ⟨k, hk, rfl, hall, rfl⟩ := hrel
      by_cases hlt : k < s.size
      · have hlt' : (k : Int) < (s.size : Int) := by omega
        have hk0 : (0 : Int) ≤ (k : Int) := by omega
        by_cases h48 : bt s k = 48
        · cases k with
          | zero =>
            have hf := Lib.hid (nok_no hlt (fun h => by have := h.2 rfl; omega))
            go_wp2
            go_ret
            exact ⟨by rw [hf.out]; rfl, rfl⟩
          | succ q =>
            have hq0 : (0 : Int) ≤ (q : Int) := by omega
            have hok := Lib.hid (show ok2 s (q + 1) from ⟨⟨.inl h48, by omega⟩, fun h => by omega⟩)
            go_wp2
            all_goals
              go_roundw
              case rel => exact ⟨q + 1 + 1, by omega, by go_num, Lib.hid (ok_next hall.out hok.out), by first | rfl | trivial⟩
              case measure => (simp [intOf]) <;> omega
        · by_cases h49 : bt s k = 49
          · cases k with
            | zero =>
              have hok := Lib.hid (show ok2 s 0 from ⟨⟨.inr h49, by omega⟩, fun _ => h49⟩)
              go_wp2
              go_roundw
              case rel => exact ⟨1, by omega, rfl, Lib.hid (ok_next hall.out hok.out), by first | rfl | trivial⟩
              case measure => (simp [intOf]) <;> omega
            | succ q =>
              have hq : q < s.size := by omega
              have hq0 : (0 : Int) ≤ (q : Int) := by omega
              have hq1 : (q : Int) < (s.size : Int) := by omega
              by_cases hp : bt s q = 49
              · have hf := Lib.hid (nok_no hlt (fun h => h.1.2 ⟨by omega, h49, by simpa using hp⟩))
                go_wp2
                go_ret
                exact ⟨by rw [hf.out]; rfl, rfl⟩
              · have hok := Lib.hid (show ok2 s (q + 1) from ⟨⟨.inr h49, fun h => hp (by simpa using h.2.2)⟩, fun h => by omega⟩)
                go_wp2
                go_roundw
                case rel => exact ⟨q + 1 + 1, by omega, by go_num, Lib.hid (ok_next hall.out hok.out), by first | rfl | trivial⟩
                case measure => (simp [intOf]) <;> omega
          · have hf := Lib.hid (nok_no hlt (fun h => h.1.1.elim h48 h49))
            go_wp2
            go_ret
            exact ⟨by rw [hf.out]; rfl, rfl⟩
      · obtain rfl : k = s.size := by omega
        have hf : Hid (nokB s = decide ((s.size : Int) ≤ 60)) := by
          by_cases h60 : s.size ≤ 60
          · rw [decide_eq_true (by omega)]
            exact nok_yes h60 hall.out
          · rw [decide_eq_false (by omega)]; exact nokB_false (fun h => h60 h.1)
        go_wp2
        go_ret
        exact ⟨by rw [hf.out]; rfl, rfl⟩
end Go.Proofs.YtilbhingfnjppaaDoor
