/- The walks of the places at which a word begins in another one. -/
import Derived.Test.YtieibopegmoanaaWordsA
import Derived.Deep.RegionLaw
set_option linter.unusedSimpArgs false
set_option linter.unusedVariables false
namespace Go.Proofs.Ytieibopegmoanaa
open Go.RowKit
/-- A string begins in another one at a place. -/
def hit (w f : ByteArray) (i : Nat) : Bool := (w.extract i (i + f.size)).toList == f.toList
def pl (w f : ByteArray) (k : Nat) : List Nat := (List.range k).filter (hit w f)
def nvl (l : List Nat) : List Value := l.map (fun (n : Nat) => Value.int .i64 (n : Int))
theorem nvl_len (l : List Nat) : (nvl l).length = l.length := by simp [nvl]
theorem nvl_at (l : List Nat) (j : Nat) (h : j < l.length) : (nvl l)[j]? = some (.int .i64 (l.getD j 0 : Nat)) := by simp [nvl, h, List.getD_eq_getElem?_getD]
theorem pl_yes {w f : ByteArray} {k : Nat} (h : hit w f k = true) : pl w f (k + 1) = pl w f k ++ [k] := by simp [pl, List.range_succ, List.filter_append, h]
theorem pl_no {w f : ByteArray} {k : Nat} (h : hit w f k = false) : pl w f (k + 1) = pl w f k := by simp [pl, List.range_succ, List.filter_append, h]
theorem pl_le (w f : ByteArray) (k : Nat) : (pl w f k).length ≤ k := Nat.le_trans (List.length_filter_le _ _) (by simp)
/-- All places. -/
def places (w f : ByteArray) : List Nat := pl w f (w.size + 1 - f.size)
noncomputable def pOk (s f : ByteArray) : Bool := isWB s && (isWB f && !f.toList.isEmpty)
noncomputable def P (s f : ByteArray) : List Nat := if pOk s f then places s f else []
theorem pOk_true {s f : ByteArray} (h : pOk s f = true) : isWB s = true ∧ isWB f = true ∧ f.toList.isEmpty = false := by
  simp only [pOk, Bool.and_eq_true, Bool.not_eq_true'] at h; exact ⟨h.1, h.2.1, h.2.2⟩
theorem P_no {s f : ByteArray} (h : pOk s f = false) : P s f = [] := by simp [P, h]
theorem P_yes {s f : ByteArray} (h : pOk s f = true) : P s f = places s f := by simp [P, h]
def RowN (w : World) (B : Nat) (x : Option Addr) (cap : Nat) (l : List Nat) : Prop := w.ownsRow B 3 1 (.slice x l.length cap) l.length (nvl l)
noncomputable def plB (s f : ByteArray) : Bool := decide (0 < ((P s f).length : Int))
end Go.Proofs.Ytieibopegmoanaa
