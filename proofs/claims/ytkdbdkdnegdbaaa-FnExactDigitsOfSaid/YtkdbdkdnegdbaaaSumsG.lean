/- The walks of the count of digits, and the law. -/
import Derived.Test.YtkdbdkdnegdbaaaSumsE
import Derived.Test.YtkdbdkdnegdbaaaSumsShelf
set_option linter.unusedSimpArgs false
set_option linter.unusedVariables false
namespace Go.Proofs.Ytkdbdkdnegdbaaa
open Go.RowKit
/-- How many of a string's first places are high. -/
def cnt (s : ByteArray) (k : Nat) : Nat := (s.data.toList.take k).count 49
theorem bt49 {s : ByteArray} {k : Nat} (h : k < s.size) : bt s k = 49 ↔ s[k] = 49 := by
  rw [← bt_eq s k h]
  constructor
  · intro e; apply UInt8.toNat_inj.1; show (s[k]).toNat = 49; omega
  · intro e; rw [e]; rfl
theorem cnt_succ {s : ByteArray} {k : Nat} (h : k < s.size) : cnt s (k + 1) = cnt s k + (if bt s k = 49 then 1 else 0) := by
  have hk : k < s.data.toList.length := by rw [Array.length_toList]; exact h
  have e : s.data.toList[k] = s[k] := rfl
  have hb := bt49 h
  unfold cnt
  rw [List.take_add_one, List.getElem?_eq_getElem hk, List.count_append, e]
  by_cases h49 : bt s k = 49
  · rw [if_pos h49, hb.1 h49]; simp
  · rw [if_neg h49]; show _ + List.count 49 [s[k]] = _; rw [show List.count 49 [s[k]] = 0 from List.count_eq_zero.2 (fun q => h49 (hb.2 (List.mem_singleton.1 q).symm))]
theorem cnt_yes {s : ByteArray} {k : Nat} (h : k < s.size) (hb : bt s k = 49) : cnt s (k + 1) = cnt s k + 1 := by rw [cnt_succ h, if_pos hb]
theorem cnt_no {s : ByteArray} {k : Nat} (h : k < s.size) (hb : ¬ bt s k = 49) : cnt s (k + 1) = cnt s k := by rw [cnt_succ h, if_neg hb]; rfl
theorem cnt_le (s : ByteArray) (k : Nat) : cnt s k ≤ k := Nat.le_trans List.count_le_length (List.length_take_le _ _)
theorem cnt_all (s : ByteArray) : cnt s s.size = Lib.countByte s.data.toList 49 := by
  have : s.data.toList.length = s.size := Array.length_toList
  unfold cnt Lib.countByte
  rw [← this, List.take_length]
def dg (n : Int) : Int := if inB n 0 1000000000000 then ((cnt (num n) (num n).size : Nat) : Int) else -1
set_option maxHeartbeats 1000000 in
theorem specDigits_any (n : Int) (w : World) :
    Calls Try.prog 25 #[.int .i64 n] w fun e w' => e = .returned (.int .i64 (dg n)) ∧ Below w.heap.size w w' := by
  cases hin : inB n 0 1000000000000
  · go_enter Try.func25, Try.ntmps25
    go_wp2_with (first | (go_at_call 31; refine (l13Most_any _).mono ?_; rintro e w1 ⟨rfl, rfl⟩) | (go_at_call 27; refine (l01In_any _ _ _ _).mono ?_; rintro e w1 ⟨rfl, rfl⟩))
    go_ret
    exact ⟨ret_int (by simp [dg, hin]), by (repeat (first | with_reducible exact Below.refl _ _ | assumption | with_reducible refine Qdrew ?_ | with_reducible refine QdrewN ?_ | ((with_reducible refine Qset ?_ ?_); exact (by ((try simp only [World.size_alloc, World.size_setCell, World.size_drew, size_drewN]); (try dsimp only); omega))) | ((with_reducible refine Qalloc ?_ ?_); exact (by ((try simp only [World.size_alloc, World.size_setCell, World.size_drew, size_drewN]); (try dsimp only); omega))) | refine Qtrans (by assumption) (by ((try simp only [World.size_alloc, World.size_setCell, World.size_drew, size_drewN]); (try dsimp only); omega)) ?_))⟩
  · have hi := inB_true.1 hin
    have hsz := num_size n
    have hdg : Hid (dg n = ((cnt (num n) (num n).size : Nat) : Int)) := by show dg n = _; simp [dg, hin]
    obtain ⟨s, hs⟩ : ∃ s, num n = s := ⟨_, rfl⟩
    have hnum : ∀ w, Calls Try.prog 32 #[.int .i64 n] w fun e w' => e = .returned (.string s) ∧ Below w.heap.size w w' := fun w => hs ▸ specNumeral_n n w (by omega)
    rw [hs] at hdg hsz
    clear hs hi
    have hb : ∀ j (h : j < s.size), ((s[j]'h).toNat : Int) = bt s j := fun j h => bt_eq s j h
    go_enter Try.func25, Try.ntmps25
    go_wp2_with (first | (go_at_call 31; refine (l13Most_any _).mono ?_; rintro e w1 ⟨rfl, rfl⟩) | (go_at_call 27; refine (l01In_any _ _ _ _).mono ?_; rintro e w1 ⟨rfl, rfl⟩) | (go_at_call 32; refine (hnum _).mono ?_; rintro e w1 ⟨rfl, hb1⟩; have hz1 := hb1.size))
    go_loopw [3, 5] (fun kv i wr => ∃ k : Nat, k ≤ s.size ∧ i = .int .i64 k ∧ kv = .int .i64 (cnt s k : Nat) ∧ w1 = wr) (fun _ i _ => s.size - (intOf i).toNat)
    case atStart => exact ⟨0, by omega, rfl, rfl, by first | rfl | trivial⟩
    case round =>
      obtain ⟨k, hk, rfl, rfl, rfl⟩ := hrel
      have hcl := cnt_le s k
      by_cases hlt : k < s.size
      · have hlt' : (k : Int) < (s.size : Int) := by omega
        have hk0 : (0 : Int) ≤ (k : Int) := by omega
        by_cases h49 : bt s k = 49
        · have hs' := Lib.hid (cnt_yes hlt h49)
          go_wp2
          go_roundw
          case rel => exact ⟨k + 1, by omega, by go_num, by rw [hs'.out]; go_num, by first | rfl | trivial⟩
          case measure => (simp [intOf]) <;> omega
        · have hs' := Lib.hid (cnt_no hlt h49)
          go_wp2
          go_roundw
          case rel => exact ⟨k + 1, by omega, by go_num, by rw [hs'.out], by first | rfl | trivial⟩
          case measure => (simp [intOf]) <;> omega
      · obtain rfl : k = s.size := by omega
        go_wp2
        go_ret
        exact ⟨ret_int hdg.out.symm, hb1⟩
set_option maxHeartbeats 400000 in
theorem implDigits_any (n : Int) (w : World) :
    Calls Try.prog 26 #[.int .i64 n] w fun e w' => e = .returned (.int .i64 (dg n)) ∧ Below w.heap.size w w' := by
  cases hin : inB n 0 1000000000000
  · go_enter Try.func26, Try.ntmps26
    go_wp2_with ((go_at_call 29; refine (within_any _ _ _ _).mono ?_; rintro e w1 ⟨rfl, rfl⟩))
    go_ret
    exact ⟨ret_int (by simp [dg, hin]), by (repeat (first | with_reducible exact Below.refl _ _ | assumption | with_reducible refine Qdrew ?_ | with_reducible refine QdrewN ?_ | ((with_reducible refine Qset ?_ ?_); exact (by ((try simp only [World.size_alloc, World.size_setCell, World.size_drew, size_drewN]); (try dsimp only); omega))) | ((with_reducible refine Qalloc ?_ ?_); exact (by ((try simp only [World.size_alloc, World.size_setCell, World.size_drew, size_drewN]); (try dsimp only); omega))) | refine Qtrans (by assumption) (by ((try simp only [World.size_alloc, World.size_setCell, World.size_drew, size_drewN]); (try dsimp only); omega)) ?_))⟩
  · have hi := inB_true.1 hin
    have hdg : Hid (dg n = ((Lib.countByte (num n).data.toList 49 : Nat) : Int)) := by show dg n = _; rw [← cnt_all]; simp [dg, hin]
    go_enter Try.func26, Try.ntmps26
    go_wp2_with (first | (go_at_call 29; refine (within_any _ _ _ _).mono ?_; rintro e w1 ⟨rfl, rfl⟩) | (go_at_call 33; refine (implNumeral_lo _ _ (by omega)).mono ?_; rintro e w1 ⟨rfl, hb1⟩; have hz1 := hb1.size) | (go_at_call 35; refine (Try.strings_Count_one _ _ _).mono ?_; rintro e w2 ⟨rfl, rfl⟩))
    go_ret
    exact ⟨ret_int hdg.out.symm, hb1⟩
set_option maxHeartbeats 1000000 in
theorem DigitsOf_law (n : Int) (hn : -9223372036854775808 ≤ n ∧ n ≤ 9223372036854775807) (w : World) :
    Calls Try.prog 10 #[.int .i64 n] w fun e w' => e = .returned (.bool true) ∧ Below w.heap.size w w' := by
  clear hn
  go_enter Try.func10, Try.ntmps10
  go_wp2_with (first | (go_at_call 25; refine (specDigits_any _ _).mono ?_; rintro e w1 ⟨rfl, hb1⟩; have hz1 := hb1.size) | (go_at_call 26; refine (implDigits_any _ _).mono ?_; rintro e w2 ⟨rfl, hb2⟩))
  go_ret
  exact ⟨rfl, Qtrans hb2 hz1 hb1⟩
end Go.Proofs.Ytkdbdkdnegdbaaa
