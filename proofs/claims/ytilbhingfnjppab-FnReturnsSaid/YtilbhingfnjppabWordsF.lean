/- The walks of the reference's return words. -/
import Derived.Test.YtilbhingfnjppabWordsE
import Derived.Deep.QuietTactic
import Derived.BigQuiet
import Derived.Deep.Onto
set_option linter.unusedSimpArgs false
set_option linter.unusedVariables false
namespace Go.Proofs.Ytilbhingfnjppab
open Go.RowKit
attribute [local go_sem ↓] Go.wp_at_zero Go.wp_at_succ
theorem nat_len (l : List Nat) (x : Option Addr) (cap : Nat) (w : World) (B : Nat) (h : RowN w B x cap l) : NAt w x l.length l := nAt_of h
end Go.Proofs.Ytilbhingfnjppab
