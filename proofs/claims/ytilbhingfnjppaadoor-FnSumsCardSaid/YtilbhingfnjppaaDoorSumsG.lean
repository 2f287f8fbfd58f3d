/- The walks of the count of digits, and the law. -/
import Derived.Test.YtilbhingfnjppaaDoorSumsE
import Derived.Test.YtilbhingfnjppaaDoorSplS
set_option linter.unusedSimpArgs false
set_option linter.unusedVariables false
namespace Go.Proofs.YtilbhingfnjppaaDoor
open Go.RowKit
/-- How many of a string's first places are high. -/
def cnt (s : ByteArray) (k : Nat) : Nat := (s.data.toList.take k).count 49
theorem bt49 {s : ByteArray} {k : Nat} (h : k < s.size) : bt s k = 49 ↔ s[k] = 49 := by
  rw [← bt_eq s k h]
  constructor
  · intro e; apply UInt8.toNat_inj.1; show (s[k]).toNat = 49; omega
  · intro e; rw [e]; rfl
theorem cnt_succ {s : ByteArray} {k : Nat} (h : k < s.size) : cnt s (k + 1) = cnt s k + (if bt s k = 49 then 1 else 0) := by
  have hk : k < s.data.toList.length := by rw [Array.length_toList]; exact h
  have e : s.data.toList[k] = s[k] := rfl
  have hb := bt49 h
  unfold cnt
  rw [List.take_add_one, List.getElem?_eq_getElem hk, List.count_append, e]
  by_cases h49 : bt s k = 49
  · rw [if_pos h49, hb.1 h49]; simp
  · rw [if_neg h49]; show _ + List.count 49 [s[k]] = _; rw [show List.count 49 [s[k]] = 0 from List.count_eq_zero.2 (fun q => h49 (hb.2 (List.mem_singleton.1 q).symm))]
theorem cnt_yes {s : ByteArray} {k : Nat} (h : k < s.size) (hb : bt s k = 49) : cnt s (k + 1) = cnt s k + 1 := by rw [cnt_succ h, if_pos hb]
theorem cnt_no {s : ByteArray} {k : Nat} (h : k < s.size) (hb : ¬ bt s k = 49) : cnt s (k + 1) = cnt s k := by rw [cnt_succ h, if_neg hb]; rfl
theorem cnt_le (s : ByteArray) (k : Nat) : cnt s k ≤ k := Nat.le_trans List.count_le_length (List.length_take_le _ _)
theorem cnt_all (s : ByteArray) : cnt s s.size = Lib.countByte s.data.toList 49 := by
  have : s.data.toList.length = s.size := Array.length_toList
  unfold cnt Lib.countByte
  rw [← this, List.take_length]
def dg (n : Int) : Int := if inB n 0 1000000000000 then ((cnt (num n) (num n).size : Nat) : Int) else -1
set_option maxRecDepth 20000 in
set_option maxHeartbeats 400000 in
theorem implDigits_any (n : Int) (w : World) :
    Calls Tryd.prog 43 #[.int .i64 n] w fun e w' => e = .returned (.int .i64 (dg n)) ∧ Below w.heap.size w w' := by
  cases hin : inB n 0 1000000000000
  · go_enter Tryd.func43, Tryd.ntmps43
    go_wp2_with ((go_at_call 50; refine (within_any _ _ _ _).mono ?_; rintro e w1 ⟨rfl, rfl⟩))
    go_ret
    exact ⟨ret_int (by simp [dg, hin]), by (repeat (first | with_reducible exact Below.refl _ _ | assumption | with_reducible refine Qdrew ?_ | with_reducible refine QdrewN ?_ | ((with_reducible refine Qset ?_ ?_); exact (by ((try simp only [World.size_alloc, World.size_setCell, World.size_drew, size_drewN]); (try dsimp only); omega))) | ((with_reducible refine Qalloc ?_ ?_); exact (by ((try simp only [World.size_alloc, World.size_setCell, World.size_drew, size_drewN]); (try dsimp only); omega))) | refine Qtrans (by assumption) (by ((try simp only [World.size_alloc, World.size_setCell, World.size_drew, size_drewN]); (try dsimp only); omega)) ?_))⟩
  · have hi := inB_true.1 hin
    have hdg : Hid (dg n = ((Lib.countByte (num n).data.toList 49 : Nat) : Int)) := by show dg n = _; rw [← cnt_all]; simp [dg, hin]
    go_enter Tryd.func43, Tryd.ntmps43
    go_wp2_with (first | (go_at_call 50; refine (within_any _ _ _ _).mono ?_; rintro e w1 ⟨rfl, rfl⟩) | (go_at_call 51; refine (implNumeral_lo _ _ (by omega)).mono ?_; rintro e w1 ⟨rfl, hb1⟩; have hz1 := hb1.size) | (go_at_call 85; refine (Tryd.strings_Count_one _ _ _).mono ?_; rintro e w2 ⟨rfl, rfl⟩))
    go_ret
    exact ⟨ret_int hdg.out.symm, hb1⟩
end Go.Proofs.YtilbhingfnjppaaDoor
