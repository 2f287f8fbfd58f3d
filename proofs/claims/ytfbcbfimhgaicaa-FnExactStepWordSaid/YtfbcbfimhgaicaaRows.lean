/-
  No cell of these rows narrows 'for every input' (looked for: loops, veiled, ifaces, maps, wideKeys, modest, calm, conditions, laid).
  DERIVED. THE GIVEN ROWS OF THIS SEAT. 12 by the template 'for every input the law returns true; each argument reads behind the call as it read before'; 0 by the template 'total and deterministic' (their statements: YtfbcbfimhgaicaaTotals.lean).
  GIVEN WITH THE SEED: the statements are not yours to turn. If you find one false, say at which input.
  Laid BY PROGRAM, IN A SANDBOX (cutbox-rows.mjs): the forced cells as the released guide's own fill.sh prints them over the translation bb1928ead63febd7… (all of the seat's roots in one cut). By AI agents, Wed Nov 11 2026. No macro, syntax, notation, axiom, sorry.
-/
import Derived.Test.YtfbcbfimhgaicaaChecked
import GoSem.Claim
import GoSem.ClaimJoined
import GoSem.ClaimMapViews
import Derived.JoinedTies
import Derived.KernelRfl
namespace Go.Proofs.Ytfbcbfimhgaicaa
/- THE CELL 'sum', in the pinned program and in every row, IS THE sha256 OF THE DUMP (.gsa) THAT YtfbcbfimhgaicaaProg.lean LOADS. Nothing in Lean hashes anything: it is a label: what it is worth is what the hold of that sum in a sandbox is worth. -/
noncomputable def Try.pinned : Pinned := { name := "ytfbcbfimhgaicaa", sum := "bb1928ead63febd7cb015685b010b10aeae9f5229dc5b66ce4a240f7cb785ffc", checked := Try.checked }
namespace Rows
def none {H : Type} : Left H := { results := [], args := [] }

/-- 'laws.FnExactAutoOk': WHATEVER THE INPUT: true; the input reads as it did. -/
def fnExactAutoOkSpec : ChangeSpec := { name := "fnExactAutoOk", fn := fun _ => fun
  | [d] => { results := [.lit (.bool true)], args := [d] }
  | _ => none }
def fnExactAutoOkRow : OpenClaim := { program := "ytfbcbfimhgaicaa", sum := "bb1928ead63febd7cb015685b010b10aeae9f5229dc5b66ce4a240f7cb785ffc", func := "loop.example/g03209/laws.FnExactAutoOk", spec := "fnExactAutoOk", apart := false }
def FnExactAutoOkSaid : Prop := fnExactAutoOkRow.holds Try.pinned (OpenSpec.ofChange fnExactAutoOkSpec)

/-- ITS FALSE NEIGHBOUR: 'it returns false'. Refute it at one input. -/
def fnExactAutoOkWrong : ChangeSpec := { name := "fnExactAutoOk", fn := fun _ => fun
  | [d] => { results := [.lit (.bool false)], args := [d] }
  | _ => none }
def FnExactAutoOkWrongFalsely : Prop := fnExactAutoOkRow.holds Try.pinned (OpenSpec.ofChange fnExactAutoOkWrong)

/-- 'laws.FnExactRunAuto': WHATEVER THE INPUT: true; the input reads as it did. -/
def fnExactRunAutoSpec : ChangeSpec := { name := "fnExactRunAuto", fn := fun _ => fun
  | [d1, d2] => { results := [.lit (.bool true)], args := [d1, d2] }
  | _ => none }
def fnExactRunAutoRow : OpenClaim := { program := "ytfbcbfimhgaicaa", sum := "bb1928ead63febd7cb015685b010b10aeae9f5229dc5b66ce4a240f7cb785ffc", func := "loop.example/g03209/laws.FnExactRunAuto", spec := "fnExactRunAuto", recurses := true, apart := false }
def FnExactRunAutoSaid : Prop := fnExactRunAutoRow.holds Try.pinned (OpenSpec.ofChange fnExactRunAutoSpec)

/-- ITS FALSE NEIGHBOUR: 'it returns false'. Refute it at one input. -/
def fnExactRunAutoWrong : ChangeSpec := { name := "fnExactRunAuto", fn := fun _ => fun
  | [d1, d2] => { results := [.lit (.bool false)], args := [d1, d2] }
  | _ => none }
def FnExactRunAutoWrongFalsely : Prop := fnExactRunAutoRow.holds Try.pinned (OpenSpec.ofChange fnExactRunAutoWrong)

/-- 'laws.FnExactAutoWord': WHATEVER THE INPUT: true; the input reads as it did. -/
def fnExactAutoWordSpec : ChangeSpec := { name := "fnExactAutoWord", fn := fun _ => fun
  | [d1, d2] => { results := [.lit (.bool true)], args := [d1, d2] }
  | _ => none }
def fnExactAutoWordRow : OpenClaim := { program := "ytfbcbfimhgaicaa", sum := "bb1928ead63febd7cb015685b010b10aeae9f5229dc5b66ce4a240f7cb785ffc", func := "loop.example/g03209/laws.FnExactAutoWord", spec := "fnExactAutoWord", recurses := true, apart := false }
def FnExactAutoWordSaid : Prop := fnExactAutoWordRow.holds Try.pinned (OpenSpec.ofChange fnExactAutoWordSpec)

/-- ITS FALSE NEIGHBOUR: 'it returns false'. Refute it at one input. -/
def fnExactAutoWordWrong : ChangeSpec := { name := "fnExactAutoWord", fn := fun _ => fun
  | [d1, d2] => { results := [.lit (.bool false)], args := [d1, d2] }
  | _ => none }
def FnExactAutoWordWrongFalsely : Prop := fnExactAutoWordRow.holds Try.pinned (OpenSpec.ofChange fnExactAutoWordWrong)

/-- 'laws.FnExactIsInjective': WHATEVER THE INPUT: true; the input reads as it did. -/
def fnExactIsInjectiveSpec : ChangeSpec := { name := "fnExactIsInjective", fn := fun _ => fun
  | [d1, d2] => { results := [.lit (.bool true)], args := [d1, d2] }
  | _ => none }
def fnExactIsInjectiveRow : OpenClaim := { program := "ytfbcbfimhgaicaa", sum := "bb1928ead63febd7cb015685b010b10aeae9f5229dc5b66ce4a240f7cb785ffc", func := "loop.example/g03209/laws.FnExactIsInjective", spec := "fnExactIsInjective", apart := false }
def FnExactIsInjectiveSaid : Prop := fnExactIsInjectiveRow.holds Try.pinned (OpenSpec.ofChange fnExactIsInjectiveSpec)

/-- ITS FALSE NEIGHBOUR: 'it returns false'. Refute it at one input. -/
def fnExactIsInjectiveWrong : ChangeSpec := { name := "fnExactIsInjective", fn := fun _ => fun
  | [d1, d2] => { results := [.lit (.bool false)], args := [d1, d2] }
  | _ => none }
def FnExactIsInjectiveWrongFalsely : Prop := fnExactIsInjectiveRow.holds Try.pinned (OpenSpec.ofChange fnExactIsInjectiveWrong)

/-- 'laws.FnExactNextStandard': WHATEVER THE INPUT: true; the input reads as it did. -/
def fnExactNextStandardSpec : ChangeSpec := { name := "fnExactNextStandard", fn := fun _ => fun
  | [d1, d2, d3] => { results := [.lit (.bool true)], args := [d1, d2, d3] }
  | _ => none }
def fnExactNextStandardRow : OpenClaim := { program := "ytfbcbfimhgaicaa", sum := "bb1928ead63febd7cb015685b010b10aeae9f5229dc5b66ce4a240f7cb785ffc", func := "loop.example/g03209/laws.FnExactNextStandard", spec := "fnExactNextStandard", inPlace := ["internal/abi.NoEscape", "internal/bytealg.MakeNoZero"], apart := false }
def FnExactNextStandardSaid : Prop := fnExactNextStandardRow.holds Try.pinned (OpenSpec.ofChange fnExactNextStandardSpec)

/-- ITS FALSE NEIGHBOUR: 'it returns false'. Refute it at one input. -/
def fnExactNextStandardWrong : ChangeSpec := { name := "fnExactNextStandard", fn := fun _ => fun
  | [d1, d2, d3] => { results := [.lit (.bool false)], args := [d1, d2, d3] }
  | _ => none }
def FnExactNextStandardWrongFalsely : Prop := fnExactNextStandardRow.holds Try.pinned (OpenSpec.ofChange fnExactNextStandardWrong)

/-- 'laws.FnExactStandardWord': WHATEVER THE INPUT: true; the input reads as it did. -/
def fnExactStandardWordSpec : ChangeSpec := { name := "fnExactStandardWord", fn := fun _ => fun
  | [d] => { results := [.lit (.bool true)], args := [d] }
  | _ => none }
def fnExactStandardWordRow : OpenClaim := { program := "ytfbcbfimhgaicaa", sum := "bb1928ead63febd7cb015685b010b10aeae9f5229dc5b66ce4a240f7cb785ffc", func := "loop.example/g03209/laws.FnExactStandardWord", spec := "fnExactStandardWord", inPlace := ["internal/abi.NoEscape", "internal/bytealg.MakeNoZero"], apart := false }
def FnExactStandardWordSaid : Prop := fnExactStandardWordRow.holds Try.pinned (OpenSpec.ofChange fnExactStandardWordSpec)

/-- ITS FALSE NEIGHBOUR: 'it returns false'. Refute it at one input. -/
def fnExactStandardWordWrong : ChangeSpec := { name := "fnExactStandardWord", fn := fun _ => fun
  | [d] => { results := [.lit (.bool false)], args := [d] }
  | _ => none }
def FnExactStandardWordWrongFalsely : Prop := fnExactStandardWordRow.holds Try.pinned (OpenSpec.ofChange fnExactStandardWordWrong)

/-- 'laws.FnExactIsCentral': WHATEVER THE INPUT: true; the input reads as it did. -/
def fnExactIsCentralSpec : ChangeSpec := { name := "fnExactIsCentral", fn := fun _ => fun
  | [d] => { results := [.lit (.bool true)], args := [d] }
  | _ => none }
def fnExactIsCentralRow : OpenClaim := { program := "ytfbcbfimhgaicaa", sum := "bb1928ead63febd7cb015685b010b10aeae9f5229dc5b66ce4a240f7cb785ffc", func := "loop.example/g03209/laws.FnExactIsCentral", spec := "fnExactIsCentral", inPlace := ["internal/bytealg.IndexByteString", "internal/bytealg.IndexString"], unfollowed := true, recurses := true, named := ["internal/bytealg.MaxLen"], apart := false }
def FnExactIsCentralSaid : Prop := fnExactIsCentralRow.holds Try.pinned (OpenSpec.ofChange fnExactIsCentralSpec)

/-- ITS FALSE NEIGHBOUR: 'it returns false'. Refute it at one input. -/
def fnExactIsCentralWrong : ChangeSpec := { name := "fnExactIsCentral", fn := fun _ => fun
  | [d] => { results := [.lit (.bool false)], args := [d] }
  | _ => none }
def FnExactIsCentralWrongFalsely : Prop := fnExactIsCentralRow.holds Try.pinned (OpenSpec.ofChange fnExactIsCentralWrong)

/-- 'laws.FnExactCountReturns': WHATEVER THE INPUT: true; the input reads as it did. -/
def fnExactCountReturnsSpec : ChangeSpec := { name := "fnExactCountReturns", fn := fun _ => fun
  | [d1, d2] => { results := [.lit (.bool true)], args := [d1, d2] }
  | _ => none }
def fnExactCountReturnsRow : OpenClaim := { program := "ytfbcbfimhgaicaa", sum := "bb1928ead63febd7cb015685b010b10aeae9f5229dc5b66ce4a240f7cb785ffc", func := "loop.example/g03209/laws.FnExactCountReturns", spec := "fnExactCountReturns", recurses := true, apart := false }
def FnExactCountReturnsSaid : Prop := fnExactCountReturnsRow.holds Try.pinned (OpenSpec.ofChange fnExactCountReturnsSpec)

/-- ITS FALSE NEIGHBOUR: 'it returns false'. Refute it at one input. -/
def fnExactCountReturnsWrong : ChangeSpec := { name := "fnExactCountReturns", fn := fun _ => fun
  | [d1, d2] => { results := [.lit (.bool false)], args := [d1, d2] }
  | _ => none }
def FnExactCountReturnsWrongFalsely : Prop := fnExactCountReturnsRow.holds Try.pinned (OpenSpec.ofChange fnExactCountReturnsWrong)

/-- 'laws.FnExactChainOf': WHATEVER THE INPUT: true; the input reads as it did. -/
def fnExactChainOfSpec : ChangeSpec := { name := "fnExactChainOf", fn := fun _ => fun
  | [d1, d2, d3] => { results := [.lit (.bool true)], args := [d1, d2, d3] }
  | _ => none }
def fnExactChainOfRow : OpenClaim := { program := "ytfbcbfimhgaicaa", sum := "bb1928ead63febd7cb015685b010b10aeae9f5229dc5b66ce4a240f7cb785ffc", func := "loop.example/g03209/laws.FnExactChainOf", spec := "fnExactChainOf", unfollowed := true, recurses := true, apart := false }
def FnExactChainOfSaid : Prop := fnExactChainOfRow.holds Try.pinned (OpenSpec.ofChange fnExactChainOfSpec)

/-- ITS FALSE NEIGHBOUR: 'it returns false'. Refute it at one input. -/
def fnExactChainOfWrong : ChangeSpec := { name := "fnExactChainOf", fn := fun _ => fun
  | [d1, d2, d3] => { results := [.lit (.bool false)], args := [d1, d2, d3] }
  | _ => none }
def FnExactChainOfWrongFalsely : Prop := fnExactChainOfRow.holds Try.pinned (OpenSpec.ofChange fnExactChainOfWrong)

/-- 'laws.FnExactStepsOf': WHATEVER THE INPUT: true; the input reads as it did. -/
def fnExactStepsOfSpec : ChangeSpec := { name := "fnExactStepsOf", fn := fun _ => fun
  | [d1, d2, d3] => { results := [.lit (.bool true)], args := [d1, d2, d3] }
  | _ => none }
def fnExactStepsOfRow : OpenClaim := { program := "ytfbcbfimhgaicaa", sum := "bb1928ead63febd7cb015685b010b10aeae9f5229dc5b66ce4a240f7cb785ffc", func := "loop.example/g03209/laws.FnExactStepsOf", spec := "fnExactStepsOf", unfollowed := true, recurses := true, apart := false }
def FnExactStepsOfSaid : Prop := fnExactStepsOfRow.holds Try.pinned (OpenSpec.ofChange fnExactStepsOfSpec)

/-- ITS FALSE NEIGHBOUR: 'it returns false'. Refute it at one input. -/
def fnExactStepsOfWrong : ChangeSpec := { name := "fnExactStepsOf", fn := fun _ => fun
  | [d1, d2, d3] => { results := [.lit (.bool false)], args := [d1, d2, d3] }
  | _ => none }
def FnExactStepsOfWrongFalsely : Prop := fnExactStepsOfRow.holds Try.pinned (OpenSpec.ofChange fnExactStepsOfWrong)

/-- 'laws.FnExactStepWord': WHATEVER THE INPUT: true; the input reads as it did. -/
def fnExactStepWordSpec : ChangeSpec := { name := "fnExactStepWord", fn := fun _ => fun
  | [d1, d2, d3] => { results := [.lit (.bool true)], args := [d1, d2, d3] }
  | _ => none }
def fnExactStepWordRow : OpenClaim := { program := "ytfbcbfimhgaicaa", sum := "bb1928ead63febd7cb015685b010b10aeae9f5229dc5b66ce4a240f7cb785ffc", func := "loop.example/g03209/laws.FnExactStepWord", spec := "fnExactStepWord", unfollowed := true, recurses := true, apart := false }
def FnExactStepWordSaid : Prop := fnExactStepWordRow.holds Try.pinned (OpenSpec.ofChange fnExactStepWordSpec)

/-- ITS FALSE NEIGHBOUR: 'it returns false'. Refute it at one input. -/
def fnExactStepWordWrong : ChangeSpec := { name := "fnExactStepWord", fn := fun _ => fun
  | [d1, d2, d3] => { results := [.lit (.bool false)], args := [d1, d2, d3] }
  | _ => none }
def FnExactStepWordWrongFalsely : Prop := fnExactStepWordRow.holds Try.pinned (OpenSpec.ofChange fnExactStepWordWrong)

/-- 'laws.FnExactStepKinds': WHATEVER THE INPUT: true; the input reads as it did. -/
def fnExactStepKindsSpec : ChangeSpec := { name := "fnExactStepKinds", fn := fun _ => fun
  | [d1, d2] => { results := [.lit (.bool true)], args := [d1, d2] }
  | _ => none }
def fnExactStepKindsRow : OpenClaim := { program := "ytfbcbfimhgaicaa", sum := "bb1928ead63febd7cb015685b010b10aeae9f5229dc5b66ce4a240f7cb785ffc", func := "loop.example/g03209/laws.FnExactStepKinds", spec := "fnExactStepKinds", unfollowed := true, recurses := true, apart := false }
def FnExactStepKindsSaid : Prop := fnExactStepKindsRow.holds Try.pinned (OpenSpec.ofChange fnExactStepKindsSpec)

/-- ITS FALSE NEIGHBOUR: 'it returns false'. Refute it at one input. -/
def fnExactStepKindsWrong : ChangeSpec := { name := "fnExactStepKinds", fn := fun _ => fun
  | [d1, d2] => { results := [.lit (.bool false)], args := [d1, d2] }
  | _ => none }
def FnExactStepKindsWrongFalsely : Prop := fnExactStepKindsRow.holds Try.pinned (OpenSpec.ofChange fnExactStepKindsWrong)

/- THE SECOND FORM. 'bulk': how many values and letters a reading holds, each counted each time it is reached (what is shared counts as often as it is met; a slice's spare places count too). A statement '..UptoSaid' is the law's where the arguments, and the package variables that the reading takes, are together of bulk at most 1048576: NARROWER than '..Said'. Prove '..Said' where nothing that the law and all that it calls make is longer than what came in: it says more and counts as full. Else prove '..UptoSaid'. A law counts once. -/
mutual
def uptoBulk {H : Type} : DataW H → Nat
  | .lit (.string bytes) => bytes.length + 1
  | .lit _ => 1
  | .nil => 1
  | .ptr d => uptoBulk d + 1
  | .slice elems spare => uptoBulkAll elems + uptoBulkAll spare + 1
  | .agg parts => uptoBulkAll parts + 1
  | .iface _ d => uptoBulk d + 1
  | .map entries => uptoBulkEntries entries + 1
  | .held _ => 1
def uptoBulkAll {H : Type} : List (DataW H) → Nat
  | [] => 0
  | d :: r => uptoBulk d + uptoBulkAll r
def uptoBulkEntries {H : Type} : List (Lit × DataW H) → Nat
  | [] => 0
  | x :: r => uptoBulkEntry x + uptoBulkEntries r
def uptoBulkEntry {H : Type} : Lit × DataW H → Nat
  | (.string bytes, d) => bytes.length + uptoBulk d + 1
  | (_, d) => uptoBulk d + 1
 end
def uptoSmall : (H : Type) → List (DataW H) → Bool := fun _ ds => decide (uptoBulkAll ds ≤ 1048576)
def OpenSpec.upto (s : _root_.Go.ChangeSpec) : _root_.Go.OpenSpec := { _root_.Go.OpenSpec.ofChange s with cond := some uptoSmall }

/-- 'laws.FnExactAutoOk', WHERE WHAT IT READS IS OF BULK AT MOST 1048576: true; the input reads as it did. -/
def fnExactAutoOkUptoRow : OpenClaim := { program := "ytfbcbfimhgaicaa", sum := "bb1928ead63febd7cb015685b010b10aeae9f5229dc5b66ce4a240f7cb785ffc", func := "loop.example/g03209/laws.FnExactAutoOk", spec := "fnExactAutoOk", apart := false, narrowed := true }
def FnExactAutoOkUptoSaid : Prop := fnExactAutoOkUptoRow.holds Try.pinned (OpenSpec.upto fnExactAutoOkSpec)

/-- 'laws.FnExactRunAuto', WHERE WHAT IT READS IS OF BULK AT MOST 1048576: true; the input reads as it did. -/
def fnExactRunAutoUptoRow : OpenClaim := { program := "ytfbcbfimhgaicaa", sum := "bb1928ead63febd7cb015685b010b10aeae9f5229dc5b66ce4a240f7cb785ffc", func := "loop.example/g03209/laws.FnExactRunAuto", spec := "fnExactRunAuto", recurses := true, apart := false, narrowed := true }
def FnExactRunAutoUptoSaid : Prop := fnExactRunAutoUptoRow.holds Try.pinned (OpenSpec.upto fnExactRunAutoSpec)

/-- 'laws.FnExactAutoWord', WHERE WHAT IT READS IS OF BULK AT MOST 1048576: true; the input reads as it did. -/
def fnExactAutoWordUptoRow : OpenClaim := { program := "ytfbcbfimhgaicaa", sum := "bb1928ead63febd7cb015685b010b10aeae9f5229dc5b66ce4a240f7cb785ffc", func := "loop.example/g03209/laws.FnExactAutoWord", spec := "fnExactAutoWord", recurses := true, apart := false, narrowed := true }
def FnExactAutoWordUptoSaid : Prop := fnExactAutoWordUptoRow.holds Try.pinned (OpenSpec.upto fnExactAutoWordSpec)

/-- 'laws.FnExactIsInjective', WHERE WHAT IT READS IS OF BULK AT MOST 1048576: true; the input reads as it did. -/
def fnExactIsInjectiveUptoRow : OpenClaim := { program := "ytfbcbfimhgaicaa", sum := "bb1928ead63febd7cb015685b010b10aeae9f5229dc5b66ce4a240f7cb785ffc", func := "loop.example/g03209/laws.FnExactIsInjective", spec := "fnExactIsInjective", apart := false, narrowed := true }
def FnExactIsInjectiveUptoSaid : Prop := fnExactIsInjectiveUptoRow.holds Try.pinned (OpenSpec.upto fnExactIsInjectiveSpec)

/-- 'laws.FnExactNextStandard', WHERE WHAT IT READS IS OF BULK AT MOST 1048576: true; the input reads as it did. -/
def fnExactNextStandardUptoRow : OpenClaim := { program := "ytfbcbfimhgaicaa", sum := "bb1928ead63febd7cb015685b010b10aeae9f5229dc5b66ce4a240f7cb785ffc", func := "loop.example/g03209/laws.FnExactNextStandard", spec := "fnExactNextStandard", inPlace := ["internal/abi.NoEscape", "internal/bytealg.MakeNoZero"], apart := false, narrowed := true }
def FnExactNextStandardUptoSaid : Prop := fnExactNextStandardUptoRow.holds Try.pinned (OpenSpec.upto fnExactNextStandardSpec)

/-- 'laws.FnExactStandardWord', WHERE WHAT IT READS IS OF BULK AT MOST 1048576: true; the input reads as it did. -/
def fnExactStandardWordUptoRow : OpenClaim := { program := "ytfbcbfimhgaicaa", sum := "bb1928ead63febd7cb015685b010b10aeae9f5229dc5b66ce4a240f7cb785ffc", func := "loop.example/g03209/laws.FnExactStandardWord", spec := "fnExactStandardWord", inPlace := ["internal/abi.NoEscape", "internal/bytealg.MakeNoZero"], apart := false, narrowed := true }
def FnExactStandardWordUptoSaid : Prop := fnExactStandardWordUptoRow.holds Try.pinned (OpenSpec.upto fnExactStandardWordSpec)

/-- 'laws.FnExactIsCentral', WHERE WHAT IT READS IS OF BULK AT MOST 1048576: true; the input reads as it did. -/
def fnExactIsCentralUptoRow : OpenClaim := { program := "ytfbcbfimhgaicaa", sum := "bb1928ead63febd7cb015685b010b10aeae9f5229dc5b66ce4a240f7cb785ffc", func := "loop.example/g03209/laws.FnExactIsCentral", spec := "fnExactIsCentral", inPlace := ["internal/bytealg.IndexByteString", "internal/bytealg.IndexString"], unfollowed := true, recurses := true, named := ["internal/bytealg.MaxLen"], apart := false, narrowed := true }
def FnExactIsCentralUptoSaid : Prop := fnExactIsCentralUptoRow.holds Try.pinned (OpenSpec.upto fnExactIsCentralSpec)

/-- 'laws.FnExactCountReturns', WHERE WHAT IT READS IS OF BULK AT MOST 1048576: true; the input reads as it did. -/
def fnExactCountReturnsUptoRow : OpenClaim := { program := "ytfbcbfimhgaicaa", sum := "bb1928ead63febd7cb015685b010b10aeae9f5229dc5b66ce4a240f7cb785ffc", func := "loop.example/g03209/laws.FnExactCountReturns", spec := "fnExactCountReturns", recurses := true, apart := false, narrowed := true }
def FnExactCountReturnsUptoSaid : Prop := fnExactCountReturnsUptoRow.holds Try.pinned (OpenSpec.upto fnExactCountReturnsSpec)

/-- 'laws.FnExactChainOf', WHERE WHAT IT READS IS OF BULK AT MOST 1048576: true; the input reads as it did. -/
def fnExactChainOfUptoRow : OpenClaim := { program := "ytfbcbfimhgaicaa", sum := "bb1928ead63febd7cb015685b010b10aeae9f5229dc5b66ce4a240f7cb785ffc", func := "loop.example/g03209/laws.FnExactChainOf", spec := "fnExactChainOf", unfollowed := true, recurses := true, apart := false, narrowed := true }
def FnExactChainOfUptoSaid : Prop := fnExactChainOfUptoRow.holds Try.pinned (OpenSpec.upto fnExactChainOfSpec)

/-- 'laws.FnExactStepsOf', WHERE WHAT IT READS IS OF BULK AT MOST 1048576: true; the input reads as it did. -/
def fnExactStepsOfUptoRow : OpenClaim := { program := "ytfbcbfimhgaicaa", sum := "bb1928ead63febd7cb015685b010b10aeae9f5229dc5b66ce4a240f7cb785ffc", func := "loop.example/g03209/laws.FnExactStepsOf", spec := "fnExactStepsOf", unfollowed := true, recurses := true, apart := false, narrowed := true }
def FnExactStepsOfUptoSaid : Prop := fnExactStepsOfUptoRow.holds Try.pinned (OpenSpec.upto fnExactStepsOfSpec)

/-- 'laws.FnExactStepWord', WHERE WHAT IT READS IS OF BULK AT MOST 1048576: true; the input reads as it did. -/
def fnExactStepWordUptoRow : OpenClaim := { program := "ytfbcbfimhgaicaa", sum := "bb1928ead63febd7cb015685b010b10aeae9f5229dc5b66ce4a240f7cb785ffc", func := "loop.example/g03209/laws.FnExactStepWord", spec := "fnExactStepWord", unfollowed := true, recurses := true, apart := false, narrowed := true }
def FnExactStepWordUptoSaid : Prop := fnExactStepWordUptoRow.holds Try.pinned (OpenSpec.upto fnExactStepWordSpec)

/-- 'laws.FnExactStepKinds', WHERE WHAT IT READS IS OF BULK AT MOST 1048576: true; the input reads as it did. -/
def fnExactStepKindsUptoRow : OpenClaim := { program := "ytfbcbfimhgaicaa", sum := "bb1928ead63febd7cb015685b010b10aeae9f5229dc5b66ce4a240f7cb785ffc", func := "loop.example/g03209/laws.FnExactStepKinds", spec := "fnExactStepKinds", unfollowed := true, recurses := true, apart := false, narrowed := true }
def FnExactStepKindsUptoSaid : Prop := fnExactStepKindsUptoRow.holds Try.pinned (OpenSpec.upto fnExactStepKindsSpec)

end Rows
end Go.Proofs.Ytfbcbfimhgaicaa
