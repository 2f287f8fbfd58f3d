/- FromDerived: the walks and the law. -/
import Derived.Test.YtilbhingfnjppaaDoorWordsA
import Derived.Test.YtilbhingfnjppaaDoorLawS
set_option linter.unusedSimpArgs false
set_option linter.unusedVariables false
namespace Go.Proofs.YtilbhingfnjppaaDoor
open Go.RowKit
/-- The words of a list that a word's first letters name, one after the other. -/
def cc (d : ByteArray) (zs : List ByteArray) : Nat → ByteArray
  | 0 => ⟨#[]⟩
  | k + 1 => cc d zs k ++ zs.getD (lt d k) ByteArray.empty
theorem cc_succ (d : ByteArray) (zs : List ByteArray) (k : Nat) : cc d zs (k + 1) = cc d zs k ++ zs.getD (lt d k) ByteArray.empty := rfl
theorem word_size {zs : List ByteArray} (h : ∀ j, j < zs.length → isWP (zs.getD j ByteArray.empty)) (j : Nat) : (zs.getD j ByteArray.empty).size ≤ 400 := by
  by_cases hj : j < zs.length
  · exact (h j hj).1
  · rw [List.getD_eq_getElem?_getD, List.getElem?_eq_none (by omega)]; exact Nat.zero_le _
theorem cc_size {d : ByteArray} {zs : List ByteArray} (h : ∀ j, j < zs.length → isWP (zs.getD j ByteArray.empty)) : ∀ k, (cc d zs k).size ≤ 400 * k
  | 0 => Nat.zero_le _
  | k + 1 => by have := cc_size (d := d) h k; have := word_size h (lt d k); rw [cc_succ, ByteArray.size_append]; omega
theorem cc_mono (d : ByteArray) (zs : List ByteArray) {k m : Nat} (h : k ≤ m) : (cc d zs k).size ≤ (cc d zs m).size := by
  induction h with
  | refl => exact Nat.le_refl _
  | step _ ih => rw [cc_succ, ByteArray.size_append]; omega
def FDok (d : ByteArray) (zs : List ByteArray) : Prop :=
  isWP d ∧ zs.length ≤ 4 ∧ (∀ j, j < d.size → lt d j < zs.length) ∧ (∀ j, j < zs.length → isWP (zs.getD j ByteArray.empty)) ∧ isWP (cc d zs d.size)
open Classical in
noncomputable def fdV (d : ByteArray) (zs : List ByteArray) : Value := if FDok d zs then .tuple #[.string (cc d zs d.size), .bool true] else .tuple #[.string ⟨#[]⟩, .bool false]
theorem fd_yes {d : ByteArray} {zs : List ByteArray} (h : FDok d zs) : fdV d zs = .tuple #[.string (cc d zs d.size), .bool true] := by simp [fdV, h]
theorem fd_no {d : ByteArray} {zs : List ByteArray} (h : ¬ FDok d zs) : fdV d zs = .tuple #[.string ⟨#[]⟩, .bool false] := by simp [fdV, h]
theorem add_run (a b : ByteArray) (h : a.size + b.size ≤ 9223372036854775807) (w : World) : (Op.stringOp .add a b).run Tryd.prog w = .ok (.string (a ++ b)) w := run_string_add_sum w a b h
/-- A copy that the law made of a list that came in, in whatever later world. -/
theorem copy_strs {w w1 w2 : World} {g n : Nat} {zs : List ByteArray} (h : w1.ownsRow w.heap.size 9 1 (.slice (some ⟨g, 0, none⟩) n n) n (sv zs)) (hz : ∀ s ∈ zs, s.size ≤ maxLen) (hb : Below w1.heap.size w1 w2) : IsStrs w2 (some ⟨g, 0, none⟩) n n zs :=
  isStrs_below (isStrs_own h hz) (Nat.le_refl _) hb
end Go.Proofs.YtilbhingfnjppaaDoor
