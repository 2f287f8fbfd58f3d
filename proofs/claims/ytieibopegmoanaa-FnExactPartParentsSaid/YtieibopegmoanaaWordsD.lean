/- The walks of lists of return words. -/
import Derived.Test.YtieibopegmoanaaWordsC
import Derived.Deep.RegionLaw
set_option linter.unusedSimpArgs false
set_option linter.unusedVariables false
namespace Go.Proofs.Ytieibopegmoanaa
open Go.RowKit
attribute [local go_sem ↓] Go.wp_at_zero Go.wp_at_succ
theorem pl_len400 {s f : ByteArray} (h : s.size ≤ 400) : (P s f).length ≤ 401 := by
  unfold P; split
  · have := pl_le s f (s.size + 1 - f.size); unfold places; omega
  · simp
theorem rowS_mk {w : World} {B : Nat} {x : Option Addr} {n cap : Nat} {xs : List Value} {l : List ByteArray} (h : w.ownsRow B 9 1 (.slice x n cap) n xs) (hn : l.length = n) (hx : xs = sv l) : RowS w B x cap l := by
  subst hn hx; exact h
theorem ne_app {g ga gg n cap H : Nat} (hne : g ≠ ga) (hgl : ga < H) (hat : (Value.slice (some ⟨g, 0, none⟩) n cap).ownBlock = some gg ∨ gg = H + 1) : gg ≠ ga := by
  rcases hat with e | e
  · have : g = gg := by simpa [Value.ownBlock] using e
    omega
  · omega
end Go.Proofs.Ytieibopegmoanaa
