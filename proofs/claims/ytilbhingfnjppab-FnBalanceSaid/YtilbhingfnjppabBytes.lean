/- Bytes of strings, numbers and bytes as values, slices of the call's own. -/
import Derived.Test.YtilbhingfnjppabBase2
import Derived.Laws.IdiomStrings
set_option linter.unusedSimpArgs false
set_option linter.unusedVariables false
namespace Go.Proofs.Ytilbhingfnjppab
open Go.RowKit
/-- The byte of a string at a place. -/
def bt (s : ByteArray) (j : Nat) : Int := if h : j < s.size then ((s[j]'h).toNat : Int) else 0
theorem bt_eq (s : ByteArray) (j : Nat) (h : j < s.size) : ((s[j]'h).toNat : Int) = bt s j := by simp [bt, h]
theorem bt_range (s : ByteArray) (j : Nat) : 0 ≤ bt s j ∧ bt s j ≤ 255 := by
  unfold bt
  split
  · have := (s[j]'(by assumption)).toNat_lt; omega
  · omega
theorem ret_str {a b : ByteArray} (h : a = b) : Ending.returned (.string a) = .returned (.string b) := by rw [h]
/-- Numbers, bytes, strings as values. -/
def iv (l : List Int) : List Value := l.map (Value.int .i64)
theorem iv_len (l : List Int) : (iv l).length = l.length := by simp [iv]
theorem iv_snoc (l : List Int) (x : Int) : iv (l ++ [x]) = iv l ++ [.int .i64 x] := by simp [iv]
theorem iv_at (l : List Int) (j : Nat) (h : j < l.length) : (iv l)[j]? = some (.int .i64 (l.getD j 0)) := by simp [iv, h, List.getD_eq_getElem?_getD]
theorem iv_set (l : List Int) (j : Nat) (z : Int) : (iv l).set j (.int .i64 z) = iv (l.set j z) := by simp [iv, List.map_set]
theorem iv_zeros (n : Nat) : (madeCells #[Value.int .i64 0] (n * 1)).toList = iv (List.replicate n 0) := by rw [toList_madeCells_one]; simp [iv]
def bv (l : List UInt8) : List Value := l.map (fun x => Value.int .u8 (x.toNat : Int))
theorem bv_len (l : List UInt8) : (bv l).length = l.length := by simp [bv]
theorem bv_snoc (l : List UInt8) (x : UInt8) : bv (l ++ [x]) = bv l ++ [.int .u8 (x.toNat : Int)] := by simp [bv]
theorem bv_at (l : List UInt8) (j : Nat) (h : j < l.length) : (bv l)[j]? = some (.int .u8 (l[j].toNat : Int)) := by simp [bv, h]
def sv (l : List ByteArray) : List Value := l.map Value.string
theorem sv_len (l : List ByteArray) : (sv l).length = l.length := by simp [sv]
theorem sv_snoc (l : List ByteArray) (x : ByteArray) : sv (l ++ [x]) = sv l ++ [.string x] := by simp [sv]
theorem sv_at (l : List ByteArray) (j : Nat) (h : j < l.length) : (sv l)[j]? = some (.string (l.getD j ByteArray.empty)) := by simp [sv, h, List.getD_eq_getElem?_getD]
theorem sv_set (l : List ByteArray) (j : Nat) (z : ByteArray) : (sv l).set j (.string z) = sv (l.set j z) := by simp [sv, List.map_set]
theorem sv_empty (n : Nat) : (madeCells #[Value.string ⟨#[]⟩] (n * 1)).toList = sv (List.replicate n ⟨#[]⟩) := by rw [toList_madeCells_one]; simp [sv]
/-- A slice of bytes that the call owns, made a string. -/
theorem own_string {w : World} {B g cap : Nat} {l : List UInt8} (h : w.ownsRow B 5 1 (.slice (some ⟨g, 0, none⟩) l.length cap) l.length (bv l)) :
    (convert 22 9 (.slice (some ⟨g, 0, none⟩) l.length cap)).run Try.prog w = .ok (.string ⟨l.toArray⟩) w :=
  run_convert_bytes_back w 22 9 5 ⟨g, 0, none⟩ cap l Try.underlying22 Try.underlying5 Try.underlying9 (fun j hj => by rw [Addr.add_lit, Nat.zero_add, own_cell h j hj, bv_at _ _ hj])
theorem below_grown {W w1 : World} (h : Below W.heap.size W w1) : W.grownBy w1 none := ⟨h.os, h.tape, h.output, h.size, fun k hk _ => h.block k hk⟩
theorem own_below {W w1 : World} {B : Nat} {e : TypeId} {v : Value} {n : Nat} {xs : List Value} (h : W.ownsRow B e 1 v n xs) (hb : Below W.heap.size W w1) : w1.ownsRow B e 1 v n xs :=
  h.kept (below_grown hb) (by cases v.ownBlock <;> simp)
end Go.Proofs.Ytilbhingfnjppab
