/- The walks of the laws' own functions that mark lists of strings. -/
import Derived.Test.YtilbhingfnjppabLawS
import Derived.Deep.RegionHeld3
set_option linter.unusedSimpArgs false
set_option linter.unusedVariables false
namespace Go.Proofs.Ytilbhingfnjppab
open Go.RowKit
/-- The decimal digits of a number, none for 0. -/
def dgs (k : Nat) : List UInt8 := if h : k = 0 then [] else dgs (k / 10) ++ [UInt8.ofNat (48 + k % 10)]
termination_by k
decreasing_by omega
theorem dgs_zero : dgs 0 = [] := by unfold dgs; simp
theorem dgs_pos {k : Nat} (h : k ≠ 0) : dgs k = dgs (k / 10) ++ [UInt8.ofNat (48 + k % 10)] := by rw [dgs.eq_1, dif_neg h]
def mt (k : Nat) : ByteArray := if k = 0 then ⟨#[109, 48]⟩ else ⟨(109 :: dgs k).toArray⟩
theorem dgs_len : ∀ k : Nat, (dgs k).length ≤ k := by
  intro k
  induction k using Nat.strongRecOn with
  | _ k ih =>
    by_cases h : k = 0
    · subst h; rw [dgs_zero]; simp
    · rw [dgs_pos h]; have := ih (k / 10) (by omega); simp; omega
theorem mt_size (k : Nat) : (mt k).size ≤ k + 2 := by
  unfold mt; split
  · simp [ByteArray.size]
  · have := dgs_len k; simp [ByteArray.size]; omega
theorem size_arr (l : List UInt8) : (⟨l.toArray⟩ : ByteArray).size = l.length := by simp [ByteArray.size]
theorem one_string (wr : World) (x : UInt8) :
    (convert 22 9 (.slice (some ⟨wr.heap.size, 0, none⟩) 1 1)).run Try.prog (wr.alloc (.cells #[.int .u8 (x.toNat : Int)] 5)) = .ok (.string ⟨#[x]⟩) (wr.alloc (.cells #[.int .u8 (x.toNat : Int)] 5)) :=
  run_convert_bytes_back _ 22 9 5 ⟨wr.heap.size, 0, none⟩ 1 [x] Try.underlying22 Try.underlying5 Try.underlying9 (fun j hj => by
    have : j = 0 := by simp at hj; omega
    subst this
    rw [Addr.add_lit, Nat.zero_add]
    simp [go_sem])
theorem front_run (x : UInt8) (l : List UInt8) (h : l.length ≤ 1000000000000) (w : World) : (Op.stringOp .add ⟨#[x]⟩ ⟨l.toArray⟩).run Try.prog w = .ok (.string ⟨(x :: l).toArray⟩) w := by
  have e : (⟨#[x]⟩ : ByteArray).size = 1 := rfl
  have e2 := size_arr l
  rw [run_string_add_sum w _ _ (by omega)]
  congr 2
  try (apply ByteArray.ext; simp)
/-- The marks from k on. -/
def mk (k n : Nat) : List ByteArray := (List.range n).map (fun j => mt (k + j))
theorem mk_len (k n : Nat) : (mk k n).length = n := by simp [mk]
theorem mk_at (k n j : Nat) (h : j < n) : (mk k n).getD j ByteArray.empty = mt (k + j) := by simp [mk, List.getD_eq_getElem?_getD, h]
theorem mk_small (k n : Nat) (h : k + n ≤ 100000000) : ∀ z ∈ mk k n, z.size ≤ maxLen := by
  intro z hz
  obtain ⟨i, hi, rfl⟩ := List.mem_map.1 hz
  have h1 := mt_size (k + i)
  have h2 : i < n := by simpa using hi
  unfold maxLen; omega
theorem grown_trans {a b c : World} {r : Option Nat} (h1 : a.grownBy b r) (h2 : b.grownBy c r) : a.grownBy c r :=
  ⟨h2.os.trans h1.os, h2.tape.trans h1.tape, h2.output.trans h1.output, Nat.le_trans h1.size h2.size, fun k hk hne => (h2.block k (Nat.lt_of_lt_of_le hk h1.size) hne).trans (h1.block k hk hne)⟩
theorem grown_below {a b : World} {r : Option Nat} (h : Below a.heap.size a b) : a.grownBy b r := ⟨h.os, h.tape, h.output, h.size, fun k hk _ => h.block k hk⟩
theorem mark_set (zs : List ByteArray) (k j n : Nat) (hz : zs.length = n) (h : j < n) : (mk k j ++ zs.drop j).set j (mt (k + j)) = mk k (j + 1) ++ zs.drop (j + 1) := by
  rw [List.set_append_right _ _ (by rw [mk_len]; exact Nat.le_refl _), mk_len, Nat.sub_self, List.drop_eq_getElem_cons (by omega), List.set_cons_zero]
  simp [mk, List.range_succ]
end Go.Proofs.Ytilbhingfnjppab
