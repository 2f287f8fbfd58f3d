/-
  No cell of these rows narrows 'for every input' (looked for: loops, veiled, ifaces, maps, wideKeys, modest, calm, conditions, laid).
  DERIVED. THE GIVEN ROWS OF THIS SEAT. 4 by the template 'for every input the law returns true; each argument reads behind the call as it read before'; 0 by the template 'total and deterministic' (their statements: YtilbhingfnjppabTotals.lean).
  GIVEN WITH THE SEED: the statements are not yours to turn. If you find one false, say at which input.
  Laid BY PROGRAM, IN A SANDBOX (cutbox-rows.mjs): the forced cells as the released guide's own fill.sh prints them over the translation 3f1f92f74489d914… (all of the seat's roots in one cut). By AI agents, Wed Nov 11 2026. No macro, syntax, notation, axiom, sorry.
-/
import Derived.Test.YtilbhingfnjppabChecked
import GoSem.Claim
import GoSem.ClaimJoined
import GoSem.ClaimMapViews
import Derived.JoinedTies
import Derived.KernelRfl
namespace Go.Proofs.Ytilbhingfnjppab
/- THE CELL 'sum', in the pinned program and in every row, IS THE sha256 OF THE DUMP (.gsa) THAT YtilbhingfnjppabProg.lean LOADS. Nothing in Lean hashes anything: it is a label: what it is worth is what the hold of that sum in a sandbox is worth. -/
noncomputable def Try.pinned : Pinned := { name := "ytilbhingfnjppab", sum := "3f1f92f74489d9144b0f25dc4811aee691a700b28565f38bb708099b911a4b50", checked := Try.checked }
namespace Rows
def none {H : Type} : Left H := { results := [], args := [] }

/-- 'laws.FnParents': WHATEVER THE INPUT: true; the input reads as it did. -/
def fnParentsSpec : ChangeSpec := { name := "fnParents", fn := fun _ => fun
  | [d] => { results := [.lit (.bool true)], args := [d] }
  | _ => none }
def fnParentsRow : OpenClaim := { program := "ytilbhingfnjppab", sum := "3f1f92f74489d9144b0f25dc4811aee691a700b28565f38bb708099b911a4b50", func := "loop.example/g03209/laws.FnParents", spec := "fnParents", apart := false }
def FnParentsSaid : Prop := fnParentsRow.holds Try.pinned (OpenSpec.ofChange fnParentsSpec)

/-- ITS FALSE NEIGHBOUR: 'it returns false'. Refute it at one input. -/
def fnParentsWrong : ChangeSpec := { name := "fnParents", fn := fun _ => fun
  | [d] => { results := [.lit (.bool false)], args := [d] }
  | _ => none }
def FnParentsWrongFalsely : Prop := fnParentsRow.holds Try.pinned (OpenSpec.ofChange fnParentsWrong)

/-- 'laws.FnReturns': WHATEVER THE INPUT: true; the input reads as it did. -/
def fnReturnsSpec : ChangeSpec := { name := "fnReturns", fn := fun _ => fun
  | [d] => { results := [.lit (.bool true)], args := [d] }
  | _ => none }
def fnReturnsRow : OpenClaim := { program := "ytilbhingfnjppab", sum := "3f1f92f74489d9144b0f25dc4811aee691a700b28565f38bb708099b911a4b50", func := "loop.example/g03209/laws.FnReturns", spec := "fnReturns", inPlace := ["internal/bytealg.IndexByteString", "internal/bytealg.IndexString"], recurses := true, named := ["internal/bytealg.MaxLen"], apart := false }
def FnReturnsSaid : Prop := fnReturnsRow.holds Try.pinned (OpenSpec.ofChange fnReturnsSpec)

/-- ITS FALSE NEIGHBOUR: 'it returns false'. Refute it at one input. -/
def fnReturnsWrong : ChangeSpec := { name := "fnReturns", fn := fun _ => fun
  | [d] => { results := [.lit (.bool false)], args := [d] }
  | _ => none }
def FnReturnsWrongFalsely : Prop := fnReturnsRow.holds Try.pinned (OpenSpec.ofChange fnReturnsWrong)

/-- 'laws.FnFractions': WHATEVER THE INPUT: true; the input reads as it did. -/
def fnFractionsSpec : ChangeSpec := { name := "fnFractions", fn := fun _ => fun
  | [d] => { results := [.lit (.bool true)], args := [d] }
  | _ => none }
def fnFractionsRow : OpenClaim := { program := "ytilbhingfnjppab", sum := "3f1f92f74489d9144b0f25dc4811aee691a700b28565f38bb708099b911a4b50", func := "loop.example/g03209/laws.FnFractions", spec := "fnFractions", inPlace := ["internal/abi.NoEscape", "internal/bytealg.MakeNoZero", "internal/bytealg.CountString", "internal/bytealg.IndexByteString", "internal/bytealg.IndexString"], unfollowed := true, recurses := true, named := ["internal/bytealg.MaxLen"], apart := false }
def FnFractionsSaid : Prop := fnFractionsRow.holds Try.pinned (OpenSpec.ofChange fnFractionsSpec)

/-- ITS FALSE NEIGHBOUR: 'it returns false'. Refute it at one input. -/
def fnFractionsWrong : ChangeSpec := { name := "fnFractions", fn := fun _ => fun
  | [d] => { results := [.lit (.bool false)], args := [d] }
  | _ => none }
def FnFractionsWrongFalsely : Prop := fnFractionsRow.holds Try.pinned (OpenSpec.ofChange fnFractionsWrong)

/-- 'laws.FnBalance': WHATEVER THE INPUT: true; the input reads as it did. -/
def fnBalanceSpec : ChangeSpec := { name := "fnBalance", fn := fun _ => fun
  | [d] => { results := [.lit (.bool true)], args := [d] }
  | _ => none }
def fnBalanceRow : OpenClaim := { program := "ytilbhingfnjppab", sum := "3f1f92f74489d9144b0f25dc4811aee691a700b28565f38bb708099b911a4b50", func := "loop.example/g03209/laws.FnBalance", spec := "fnBalance", inPlace := ["internal/bytealg.IndexByteString", "internal/bytealg.IndexString", "internal/bytealg.CountString"], unfollowed := true, recurses := true, named := ["internal/bytealg.MaxLen"], apart := false }
def FnBalanceSaid : Prop := fnBalanceRow.holds Try.pinned (OpenSpec.ofChange fnBalanceSpec)

/-- ITS FALSE NEIGHBOUR: 'it returns false'. Refute it at one input. -/
def fnBalanceWrong : ChangeSpec := { name := "fnBalance", fn := fun _ => fun
  | [d] => { results := [.lit (.bool false)], args := [d] }
  | _ => none }
def FnBalanceWrongFalsely : Prop := fnBalanceRow.holds Try.pinned (OpenSpec.ofChange fnBalanceWrong)

/- THE SECOND FORM. 'bulk': how many values and letters a reading holds, each counted each time it is reached (what is shared counts as often as it is met; a slice's spare places count too). A statement '..UptoSaid' is the law's where the arguments, and the package variables that the reading takes, are together of bulk at most 1048576: NARROWER than '..Said'. Prove '..Said' where nothing that the law and all that it calls make is longer than what came in: it says more and counts as full. Else prove '..UptoSaid'. A law counts once. -/
mutual
def uptoBulk {H : Type} : DataW H → Nat
  | .lit (.string bytes) => bytes.length + 1
  | .lit _ => 1
  | .nil => 1
  | .ptr d => uptoBulk d + 1
  | .slice elems spare => uptoBulkAll elems + uptoBulkAll spare + 1
  | .agg parts => uptoBulkAll parts + 1
  | .iface _ d => uptoBulk d + 1
  | .map entries => uptoBulkEntries entries + 1
  | .held _ => 1
def uptoBulkAll {H : Type} : List (DataW H) → Nat
  | [] => 0
  | d :: r => uptoBulk d + uptoBulkAll r
def uptoBulkEntries {H : Type} : List (Lit × DataW H) → Nat
  | [] => 0
  | x :: r => uptoBulkEntry x + uptoBulkEntries r
def uptoBulkEntry {H : Type} : Lit × DataW H → Nat
  | (.string bytes, d) => bytes.length + uptoBulk d + 1
  | (_, d) => uptoBulk d + 1
 end
def uptoSmall : (H : Type) → List (DataW H) → Bool := fun _ ds => decide (uptoBulkAll ds ≤ 1048576)
def OpenSpec.upto (s : _root_.Go.ChangeSpec) : _root_.Go.OpenSpec := { _root_.Go.OpenSpec.ofChange s with cond := some uptoSmall }

/-- 'laws.FnParents', WHERE WHAT IT READS IS OF BULK AT MOST 1048576: true; the input reads as it did. -/
def fnParentsUptoRow : OpenClaim := { program := "ytilbhingfnjppab", sum := "3f1f92f74489d9144b0f25dc4811aee691a700b28565f38bb708099b911a4b50", func := "loop.example/g03209/laws.FnParents", spec := "fnParents", apart := false, narrowed := true }
def FnParentsUptoSaid : Prop := fnParentsUptoRow.holds Try.pinned (OpenSpec.upto fnParentsSpec)

/-- 'laws.FnReturns', WHERE WHAT IT READS IS OF BULK AT MOST 1048576: true; the input reads as it did. -/
def fnReturnsUptoRow : OpenClaim := { program := "ytilbhingfnjppab", sum := "3f1f92f74489d9144b0f25dc4811aee691a700b28565f38bb708099b911a4b50", func := "loop.example/g03209/laws.FnReturns", spec := "fnReturns", inPlace := ["internal/bytealg.IndexByteString", "internal/bytealg.IndexString"], recurses := true, named := ["internal/bytealg.MaxLen"], apart := false, narrowed := true }
def FnReturnsUptoSaid : Prop := fnReturnsUptoRow.holds Try.pinned (OpenSpec.upto fnReturnsSpec)

/-- 'laws.FnFractions', WHERE WHAT IT READS IS OF BULK AT MOST 1048576: true; the input reads as it did. -/
def fnFractionsUptoRow : OpenClaim := { program := "ytilbhingfnjppab", sum := "3f1f92f74489d9144b0f25dc4811aee691a700b28565f38bb708099b911a4b50", func := "loop.example/g03209/laws.FnFractions", spec := "fnFractions", inPlace := ["internal/abi.NoEscape", "internal/bytealg.MakeNoZero", "internal/bytealg.CountString", "internal/bytealg.IndexByteString", "internal/bytealg.IndexString"], unfollowed := true, recurses := true, named := ["internal/bytealg.MaxLen"], apart := false, narrowed := true }
def FnFractionsUptoSaid : Prop := fnFractionsUptoRow.holds Try.pinned (OpenSpec.upto fnFractionsSpec)

/-- 'laws.FnBalance', WHERE WHAT IT READS IS OF BULK AT MOST 1048576: true; the input reads as it did. -/
def fnBalanceUptoRow : OpenClaim := { program := "ytilbhingfnjppab", sum := "3f1f92f74489d9144b0f25dc4811aee691a700b28565f38bb708099b911a4b50", func := "loop.example/g03209/laws.FnBalance", spec := "fnBalance", inPlace := ["internal/bytealg.IndexByteString", "internal/bytealg.IndexString", "internal/bytealg.CountString"], unfollowed := true, recurses := true, named := ["internal/bytealg.MaxLen"], apart := false, narrowed := true }
def FnBalanceUptoSaid : Prop := fnBalanceUptoRow.holds Try.pinned (OpenSpec.upto fnBalanceSpec)

end Rows
end Go.Proofs.Ytilbhingfnjppab
