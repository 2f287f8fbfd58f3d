/- The walks of the different return words. -/
import Derived.Test.YtieibopegmoanaaWordsD
import Derived.Lib.SlicesS
set_option linter.unusedSimpArgs false
set_option linter.unusedVariables false
namespace Go.Proofs.Ytieibopegmoanaa
open Go.RowKit
attribute [local go_sem ↓] Go.wp_at_zero Go.wp_at_succ
theorem ins_in {o : List ByteArray} {x : ByteArray} (h : Lib.containsS o x = true) : ins o x = o := by simp [ins, (Lib.containsS_iff o x).1 h]
theorem ins_out {o : List ByteArray} {x : ByteArray} (h : Lib.containsS o x = false) : ins o x = o ++ [x] := by
  have : x ∉ o := fun q => by rw [(Lib.containsS_iff o x).2 q] at h; cases h
  simp [ins, this]
theorem dd_take (zs : List ByteArray) (k : Nat) (h : k < zs.length) : dd (zs.take (k + 1)) = ins (dd (zs.take k)) (zs.getD k ByteArray.empty) := by
  rw [take_next zs k ByteArray.empty h, dd_next]
theorem dd_small {zs : List ByteArray} (h : ∀ s ∈ zs, s.size ≤ maxLen) : ∀ z ∈ dd zs, z.size ≤ maxLen := fun z hz => h z ((mem_dd zs z).1 hz)
theorem take_small {zs : List ByteArray} (h : ∀ s ∈ zs, s.size ≤ maxLen) (k : Nat) : ∀ z ∈ zs.take k, z.size ≤ maxLen := fun z hz => h z (List.mem_of_mem_take hz)
theorem ddl (zs : List ByteArray) : (dd zs).length ≤ zs.length := by have := dd_len zs []; simpa [dd] using this
end Go.Proofs.Ytieibopegmoanaa
