/-
  No cell of these rows narrows 'for every input' (looked for: loops, veiled, ifaces, maps, wideKeys, modest, calm, conditions, laid).
  DERIVED. THE GIVEN ROWS OF THIS SEAT. 8 by the template 'for every input the law returns true; each argument reads behind the call as it read before'; 0 by the template 'total and deterministic' (their statements: YtkdbdkdnegdbaaaTotals.lean).
  GIVEN WITH THE SEED: the statements are not yours to turn. If you find one false, say at which input.
  Laid BY PROGRAM, IN A SANDBOX (cutbox-rows.mjs): the forced cells as the released guide's own fill.sh prints them over the translation dd946ddbca476568… (all of the seat's roots in one cut). By AI agents, Wed Nov 11 2026. No macro, syntax, notation, axiom, sorry.
-/
import Derived.Test.YtkdbdkdnegdbaaaChecked
import GoSem.Claim
import GoSem.ClaimJoined
import GoSem.ClaimMapViews
import Derived.JoinedTies
import Derived.KernelRfl
namespace Go.Proofs.Ytkdbdkdnegdbaaa
/- THE CELL 'sum', in the pinned program and in every row, IS THE sha256 OF THE DUMP (.gsa) THAT YtkdbdkdnegdbaaaProg.lean LOADS. Nothing in Lean hashes anything: it is a label: what it is worth is what the hold of that sum in a sandbox is worth. -/
noncomputable def Try.pinned : Pinned := { name := "ytkdbdkdnegdbaaa", sum := "dd946ddbca476568d78ee668239dc7cf945f2d3fa8146812839788a56526ce26", checked := Try.checked }
namespace Rows
def none {H : Type} : Left H := { results := [], args := [] }

/-- 'laws.FnExactNumeralOk': WHATEVER THE INPUT: true; the input reads as it did. -/
def fnExactNumeralOkSpec : ChangeSpec := { name := "fnExactNumeralOk", fn := fun _ => fun
  | [d] => { results := [.lit (.bool true)], args := [d] }
  | _ => none }
def fnExactNumeralOkRow : OpenClaim := { program := "ytkdbdkdnegdbaaa", sum := "dd946ddbca476568d78ee668239dc7cf945f2d3fa8146812839788a56526ce26", func := "loop.example/g03209/laws.FnExactNumeralOk", spec := "fnExactNumeralOk", apart := false }
def FnExactNumeralOkSaid : Prop := fnExactNumeralOkRow.holds Try.pinned (OpenSpec.ofChange fnExactNumeralOkSpec)

/-- ITS FALSE NEIGHBOUR: 'it returns false'. Refute it at one input. -/
def fnExactNumeralOkWrong : ChangeSpec := { name := "fnExactNumeralOk", fn := fun _ => fun
  | [d] => { results := [.lit (.bool false)], args := [d] }
  | _ => none }
def FnExactNumeralOkWrongFalsely : Prop := fnExactNumeralOkRow.holds Try.pinned (OpenSpec.ofChange fnExactNumeralOkWrong)

/-- 'laws.FnExactWeightOf': WHATEVER THE INPUT: true; the input reads as it did. -/
def fnExactWeightOfSpec : ChangeSpec := { name := "fnExactWeightOf", fn := fun _ => fun
  | [d] => { results := [.lit (.bool true)], args := [d] }
  | _ => none }
def fnExactWeightOfRow : OpenClaim := { program := "ytkdbdkdnegdbaaa", sum := "dd946ddbca476568d78ee668239dc7cf945f2d3fa8146812839788a56526ce26", func := "loop.example/g03209/laws.FnExactWeightOf", spec := "fnExactWeightOf", apart := false }
def FnExactWeightOfSaid : Prop := fnExactWeightOfRow.holds Try.pinned (OpenSpec.ofChange fnExactWeightOfSpec)

/-- ITS FALSE NEIGHBOUR: 'it returns false'. Refute it at one input. -/
def fnExactWeightOfWrong : ChangeSpec := { name := "fnExactWeightOf", fn := fun _ => fun
  | [d] => { results := [.lit (.bool false)], args := [d] }
  | _ => none }
def FnExactWeightOfWrongFalsely : Prop := fnExactWeightOfRow.holds Try.pinned (OpenSpec.ofChange fnExactWeightOfWrong)

/-- 'laws.FnExactWaysToSum': WHATEVER THE INPUT: true; the input reads as it did. -/
def fnExactWaysToSumSpec : ChangeSpec := { name := "fnExactWaysToSum", fn := fun _ => fun
  | [d] => { results := [.lit (.bool true)], args := [d] }
  | _ => none }
def fnExactWaysToSumRow : OpenClaim := { program := "ytkdbdkdnegdbaaa", sum := "dd946ddbca476568d78ee668239dc7cf945f2d3fa8146812839788a56526ce26", func := "loop.example/g03209/laws.FnExactWaysToSum", spec := "fnExactWaysToSum", apart := false }
def FnExactWaysToSumSaid : Prop := fnExactWaysToSumRow.holds Try.pinned (OpenSpec.ofChange fnExactWaysToSumSpec)

/-- ITS FALSE NEIGHBOUR: 'it returns false'. Refute it at one input. -/
def fnExactWaysToSumWrong : ChangeSpec := { name := "fnExactWaysToSum", fn := fun _ => fun
  | [d] => { results := [.lit (.bool false)], args := [d] }
  | _ => none }
def FnExactWaysToSumWrongFalsely : Prop := fnExactWaysToSumRow.holds Try.pinned (OpenSpec.ofChange fnExactWaysToSumWrong)

/-- 'laws.FnExactNumeralOf': WHATEVER THE INPUT: true; the input reads as it did. -/
def fnExactNumeralOfSpec : ChangeSpec := { name := "fnExactNumeralOf", fn := fun _ => fun
  | [d] => { results := [.lit (.bool true)], args := [d] }
  | _ => none }
def fnExactNumeralOfRow : OpenClaim := { program := "ytkdbdkdnegdbaaa", sum := "dd946ddbca476568d78ee668239dc7cf945f2d3fa8146812839788a56526ce26", func := "loop.example/g03209/laws.FnExactNumeralOf", spec := "fnExactNumeralOf", apart := false }
def FnExactNumeralOfSaid : Prop := fnExactNumeralOfRow.holds Try.pinned (OpenSpec.ofChange fnExactNumeralOfSpec)

/-- ITS FALSE NEIGHBOUR: 'it returns false'. Refute it at one input. -/
def fnExactNumeralOfWrong : ChangeSpec := { name := "fnExactNumeralOf", fn := fun _ => fun
  | [d] => { results := [.lit (.bool false)], args := [d] }
  | _ => none }
def FnExactNumeralOfWrongFalsely : Prop := fnExactNumeralOfRow.holds Try.pinned (OpenSpec.ofChange fnExactNumeralOfWrong)

/-- 'laws.FnExactNumberOf': WHATEVER THE INPUT: true; the input reads as it did. -/
def fnExactNumberOfSpec : ChangeSpec := { name := "fnExactNumberOf", fn := fun _ => fun
  | [d] => { results := [.lit (.bool true)], args := [d] }
  | _ => none }
def fnExactNumberOfRow : OpenClaim := { program := "ytkdbdkdnegdbaaa", sum := "dd946ddbca476568d78ee668239dc7cf945f2d3fa8146812839788a56526ce26", func := "loop.example/g03209/laws.FnExactNumberOf", spec := "fnExactNumberOf", apart := false }
def FnExactNumberOfSaid : Prop := fnExactNumberOfRow.holds Try.pinned (OpenSpec.ofChange fnExactNumberOfSpec)

/-- ITS FALSE NEIGHBOUR: 'it returns false'. Refute it at one input. -/
def fnExactNumberOfWrong : ChangeSpec := { name := "fnExactNumberOf", fn := fun _ => fun
  | [d] => { results := [.lit (.bool false)], args := [d] }
  | _ => none }
def FnExactNumberOfWrongFalsely : Prop := fnExactNumberOfRow.holds Try.pinned (OpenSpec.ofChange fnExactNumberOfWrong)

/-- 'laws.FnExactShiftNumeral': WHATEVER THE INPUT: true; the input reads as it did. -/
def fnExactShiftNumeralSpec : ChangeSpec := { name := "fnExactShiftNumeral", fn := fun _ => fun
  | [d] => { results := [.lit (.bool true)], args := [d] }
  | _ => none }
def fnExactShiftNumeralRow : OpenClaim := { program := "ytkdbdkdnegdbaaa", sum := "dd946ddbca476568d78ee668239dc7cf945f2d3fa8146812839788a56526ce26", func := "loop.example/g03209/laws.FnExactShiftNumeral", spec := "fnExactShiftNumeral", apart := false }
def FnExactShiftNumeralSaid : Prop := fnExactShiftNumeralRow.holds Try.pinned (OpenSpec.ofChange fnExactShiftNumeralSpec)

/-- ITS FALSE NEIGHBOUR: 'it returns false'. Refute it at one input. -/
def fnExactShiftNumeralWrong : ChangeSpec := { name := "fnExactShiftNumeral", fn := fun _ => fun
  | [d] => { results := [.lit (.bool false)], args := [d] }
  | _ => none }
def FnExactShiftNumeralWrongFalsely : Prop := fnExactShiftNumeralRow.holds Try.pinned (OpenSpec.ofChange fnExactShiftNumeralWrong)

/-- 'laws.FnExactNextNumeral': WHATEVER THE INPUT: true; the input reads as it did. -/
def fnExactNextNumeralSpec : ChangeSpec := { name := "fnExactNextNumeral", fn := fun _ => fun
  | [d] => { results := [.lit (.bool true)], args := [d] }
  | _ => none }
def fnExactNextNumeralRow : OpenClaim := { program := "ytkdbdkdnegdbaaa", sum := "dd946ddbca476568d78ee668239dc7cf945f2d3fa8146812839788a56526ce26", func := "loop.example/g03209/laws.FnExactNextNumeral", spec := "fnExactNextNumeral", apart := false }
def FnExactNextNumeralSaid : Prop := fnExactNextNumeralRow.holds Try.pinned (OpenSpec.ofChange fnExactNextNumeralSpec)

/-- ITS FALSE NEIGHBOUR: 'it returns false'. Refute it at one input. -/
def fnExactNextNumeralWrong : ChangeSpec := { name := "fnExactNextNumeral", fn := fun _ => fun
  | [d] => { results := [.lit (.bool false)], args := [d] }
  | _ => none }
def FnExactNextNumeralWrongFalsely : Prop := fnExactNextNumeralRow.holds Try.pinned (OpenSpec.ofChange fnExactNextNumeralWrong)

/-- 'laws.FnExactDigitsOf': WHATEVER THE INPUT: true; the input reads as it did. -/
def fnExactDigitsOfSpec : ChangeSpec := { name := "fnExactDigitsOf", fn := fun _ => fun
  | [d] => { results := [.lit (.bool true)], args := [d] }
  | _ => none }
def fnExactDigitsOfRow : OpenClaim := { program := "ytkdbdkdnegdbaaa", sum := "dd946ddbca476568d78ee668239dc7cf945f2d3fa8146812839788a56526ce26", func := "loop.example/g03209/laws.FnExactDigitsOf", spec := "fnExactDigitsOf", inPlace := ["internal/bytealg.CountString", "internal/bytealg.IndexByteString", "internal/bytealg.IndexString"], named := ["internal/bytealg.MaxLen"], apart := false }
def FnExactDigitsOfSaid : Prop := fnExactDigitsOfRow.holds Try.pinned (OpenSpec.ofChange fnExactDigitsOfSpec)

/-- ITS FALSE NEIGHBOUR: 'it returns false'. Refute it at one input. -/
def fnExactDigitsOfWrong : ChangeSpec := { name := "fnExactDigitsOf", fn := fun _ => fun
  | [d] => { results := [.lit (.bool false)], args := [d] }
  | _ => none }
def FnExactDigitsOfWrongFalsely : Prop := fnExactDigitsOfRow.holds Try.pinned (OpenSpec.ofChange fnExactDigitsOfWrong)

/- THE SECOND FORM. 'bulk': how many values and letters a reading holds, each counted each time it is reached (what is shared counts as often as it is met; a slice's spare places count too). A statement '..UptoSaid' is the law's where the arguments, and the package variables that the reading takes, are together of bulk at most 1048576: NARROWER than '..Said'. Prove '..Said' where nothing that the law and all that it calls make is longer than what came in: it says more and counts as full. Else prove '..UptoSaid'. A law counts once. -/
mutual
def uptoBulk {H : Type} : DataW H → Nat
  | .lit (.string bytes) => bytes.length + 1
  | .lit _ => 1
  | .nil => 1
  | .ptr d => uptoBulk d + 1
  | .slice elems spare => uptoBulkAll elems + uptoBulkAll spare + 1
  | .agg parts => uptoBulkAll parts + 1
  | .iface _ d => uptoBulk d + 1
  | .map entries => uptoBulkEntries entries + 1
  | .held _ => 1
def uptoBulkAll {H : Type} : List (DataW H) → Nat
  | [] => 0
  | d :: r => uptoBulk d + uptoBulkAll r
def uptoBulkEntries {H : Type} : List (Lit × DataW H) → Nat
  | [] => 0
  | x :: r => uptoBulkEntry x + uptoBulkEntries r
def uptoBulkEntry {H : Type} : Lit × DataW H → Nat
  | (.string bytes, d) => bytes.length + uptoBulk d + 1
  | (_, d) => uptoBulk d + 1
 end
def uptoSmall : (H : Type) → List (DataW H) → Bool := fun _ ds => decide (uptoBulkAll ds ≤ 1048576)
def OpenSpec.upto (s : _root_.Go.ChangeSpec) : _root_.Go.OpenSpec := { _root_.Go.OpenSpec.ofChange s with cond := some uptoSmall }

/-- 'laws.FnExactNumeralOk', WHERE WHAT IT READS IS OF BULK AT MOST 1048576: true; the input reads as it did. -/
def fnExactNumeralOkUptoRow : OpenClaim := { program := "ytkdbdkdnegdbaaa", sum := "dd946ddbca476568d78ee668239dc7cf945f2d3fa8146812839788a56526ce26", func := "loop.example/g03209/laws.FnExactNumeralOk", spec := "fnExactNumeralOk", apart := false, narrowed := true }
def FnExactNumeralOkUptoSaid : Prop := fnExactNumeralOkUptoRow.holds Try.pinned (OpenSpec.upto fnExactNumeralOkSpec)

/-- 'laws.FnExactWeightOf', WHERE WHAT IT READS IS OF BULK AT MOST 1048576: true; the input reads as it did. -/
def fnExactWeightOfUptoRow : OpenClaim := { program := "ytkdbdkdnegdbaaa", sum := "dd946ddbca476568d78ee668239dc7cf945f2d3fa8146812839788a56526ce26", func := "loop.example/g03209/laws.FnExactWeightOf", spec := "fnExactWeightOf", apart := false, narrowed := true }
def FnExactWeightOfUptoSaid : Prop := fnExactWeightOfUptoRow.holds Try.pinned (OpenSpec.upto fnExactWeightOfSpec)

/-- 'laws.FnExactWaysToSum', WHERE WHAT IT READS IS OF BULK AT MOST 1048576: true; the input reads as it did. -/
def fnExactWaysToSumUptoRow : OpenClaim := { program := "ytkdbdkdnegdbaaa", sum := "dd946ddbca476568d78ee668239dc7cf945f2d3fa8146812839788a56526ce26", func := "loop.example/g03209/laws.FnExactWaysToSum", spec := "fnExactWaysToSum", apart := false, narrowed := true }
def FnExactWaysToSumUptoSaid : Prop := fnExactWaysToSumUptoRow.holds Try.pinned (OpenSpec.upto fnExactWaysToSumSpec)

/-- 'laws.FnExactNumeralOf', WHERE WHAT IT READS IS OF BULK AT MOST 1048576: true; the input reads as it did. -/
def fnExactNumeralOfUptoRow : OpenClaim := { program := "ytkdbdkdnegdbaaa", sum := "dd946ddbca476568d78ee668239dc7cf945f2d3fa8146812839788a56526ce26", func := "loop.example/g03209/laws.FnExactNumeralOf", spec := "fnExactNumeralOf", apart := false, narrowed := true }
def FnExactNumeralOfUptoSaid : Prop := fnExactNumeralOfUptoRow.holds Try.pinned (OpenSpec.upto fnExactNumeralOfSpec)

/-- 'laws.FnExactNumberOf', WHERE WHAT IT READS IS OF BULK AT MOST 1048576: true; the input reads as it did. -/
def fnExactNumberOfUptoRow : OpenClaim := { program := "ytkdbdkdnegdbaaa", sum := "dd946ddbca476568d78ee668239dc7cf945f2d3fa8146812839788a56526ce26", func := "loop.example/g03209/laws.FnExactNumberOf", spec := "fnExactNumberOf", apart := false, narrowed := true }
def FnExactNumberOfUptoSaid : Prop := fnExactNumberOfUptoRow.holds Try.pinned (OpenSpec.upto fnExactNumberOfSpec)

/-- 'laws.FnExactShiftNumeral', WHERE WHAT IT READS IS OF BULK AT MOST 1048576: true; the input reads as it did. -/
def fnExactShiftNumeralUptoRow : OpenClaim := { program := "ytkdbdkdnegdbaaa", sum := "dd946ddbca476568d78ee668239dc7cf945f2d3fa8146812839788a56526ce26", func := "loop.example/g03209/laws.FnExactShiftNumeral", spec := "fnExactShiftNumeral", apart := false, narrowed := true }
def FnExactShiftNumeralUptoSaid : Prop := fnExactShiftNumeralUptoRow.holds Try.pinned (OpenSpec.upto fnExactShiftNumeralSpec)

/-- 'laws.FnExactNextNumeral', WHERE WHAT IT READS IS OF BULK AT MOST 1048576: true; the input reads as it did. -/
def fnExactNextNumeralUptoRow : OpenClaim := { program := "ytkdbdkdnegdbaaa", sum := "dd946ddbca476568d78ee668239dc7cf945f2d3fa8146812839788a56526ce26", func := "loop.example/g03209/laws.FnExactNextNumeral", spec := "fnExactNextNumeral", apart := false, narrowed := true }
def FnExactNextNumeralUptoSaid : Prop := fnExactNextNumeralUptoRow.holds Try.pinned (OpenSpec.upto fnExactNextNumeralSpec)

/-- 'laws.FnExactDigitsOf', WHERE WHAT IT READS IS OF BULK AT MOST 1048576: true; the input reads as it did. -/
def fnExactDigitsOfUptoRow : OpenClaim := { program := "ytkdbdkdnegdbaaa", sum := "dd946ddbca476568d78ee668239dc7cf945f2d3fa8146812839788a56526ce26", func := "loop.example/g03209/laws.FnExactDigitsOf", spec := "fnExactDigitsOf", inPlace := ["internal/bytealg.CountString", "internal/bytealg.IndexByteString", "internal/bytealg.IndexString"], named := ["internal/bytealg.MaxLen"], apart := false, narrowed := true }
def FnExactDigitsOfUptoSaid : Prop := fnExactDigitsOfUptoRow.holds Try.pinned (OpenSpec.upto fnExactDigitsOfSpec)

end Rows
end Go.Proofs.Ytkdbdkdnegdbaaa
