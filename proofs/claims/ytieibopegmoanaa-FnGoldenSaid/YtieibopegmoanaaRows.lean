/-
  No cell of these rows narrows 'for every input' (looked for: loops, veiled, ifaces, maps, wideKeys, modest, calm, conditions, laid).
  DERIVED. THE GIVEN ROWS OF THIS SEAT. 5 by the template 'for every input the law returns true; each argument reads behind the call as it read before'; 0 by the template 'total and deterministic' (their statements: YtieibopegmoanaaTotals.lean).
  GIVEN WITH THE SEED: the statements are not yours to turn. If you find one false, say at which input.
  Laid BY PROGRAM, IN A SANDBOX (cutbox-rows.mjs): the forced cells as the released guide's own fill.sh prints them over the translation 44625a93091f08b9… (all of the seat's roots in one cut). By AI agents, Wed Nov 11 2026. No macro, syntax, notation, axiom, sorry.
-/
import Derived.Test.YtieibopegmoanaaChecked
import GoSem.Claim
import GoSem.ClaimJoined
import GoSem.ClaimMapViews
import Derived.JoinedTies
import Derived.KernelRfl
namespace Go.Proofs.Ytieibopegmoanaa
/- THE CELL 'sum', in the pinned program and in every row, IS THE sha256 OF THE DUMP (.gsa) THAT YtieibopegmoanaaProg.lean LOADS. Nothing in Lean hashes anything: it is a label: what it is worth is what the hold of that sum in a sandbox is worth. -/
noncomputable def Try.pinned : Pinned := { name := "ytieibopegmoanaa", sum := "44625a93091f08b9bc5c485214560079b1dde62f002e6e6474480ff3230c27c7", checked := Try.checked }
namespace Rows
def none {H : Type} : Left H := { results := [], args := [] }

/-- 'laws.FnExactIsMarked': WHATEVER THE INPUT: true; the input reads as it did. -/
def fnExactIsMarkedSpec : ChangeSpec := { name := "fnExactIsMarked", fn := fun _ => fun
  | [d] => { results := [.lit (.bool true)], args := [d] }
  | _ => none }
def fnExactIsMarkedRow : OpenClaim := { program := "ytieibopegmoanaa", sum := "44625a93091f08b9bc5c485214560079b1dde62f002e6e6474480ff3230c27c7", func := "loop.example/g03209/laws.FnExactIsMarked", spec := "fnExactIsMarked", apart := false }
def FnExactIsMarkedSaid : Prop := fnExactIsMarkedRow.holds Try.pinned (OpenSpec.ofChange fnExactIsMarkedSpec)

/-- ITS FALSE NEIGHBOUR: 'it returns false'. Refute it at one input. -/
def fnExactIsMarkedWrong : ChangeSpec := { name := "fnExactIsMarked", fn := fun _ => fun
  | [d] => { results := [.lit (.bool false)], args := [d] }
  | _ => none }
def FnExactIsMarkedWrongFalsely : Prop := fnExactIsMarkedRow.holds Try.pinned (OpenSpec.ofChange fnExactIsMarkedWrong)

/-- 'laws.FnExactPartParents': WHATEVER THE INPUT: true; the input reads as it did. -/
def fnExactPartParentsSpec : ChangeSpec := { name := "fnExactPartParents", fn := fun _ => fun
  | [d1, d2] => { results := [.lit (.bool true)], args := [d1, d2] }
  | _ => none }
def fnExactPartParentsRow : OpenClaim := { program := "ytieibopegmoanaa", sum := "44625a93091f08b9bc5c485214560079b1dde62f002e6e6474480ff3230c27c7", func := "loop.example/g03209/laws.FnExactPartParents", spec := "fnExactPartParents", apart := false }
def FnExactPartParentsSaid : Prop := fnExactPartParentsRow.holds Try.pinned (OpenSpec.ofChange fnExactPartParentsSpec)

/-- ITS FALSE NEIGHBOUR: 'it returns false'. Refute it at one input. -/
def fnExactPartParentsWrong : ChangeSpec := { name := "fnExactPartParents", fn := fun _ => fun
  | [d1, d2] => { results := [.lit (.bool false)], args := [d1, d2] }
  | _ => none }
def FnExactPartParentsWrongFalsely : Prop := fnExactPartParentsRow.holds Try.pinned (OpenSpec.ofChange fnExactPartParentsWrong)

/-- 'laws.FnExactGrownChain': WHATEVER THE INPUT: true; the input reads as it did. -/
def fnExactGrownChainSpec : ChangeSpec := { name := "fnExactGrownChain", fn := fun _ => fun
  | [d1, d2] => { results := [.lit (.bool true)], args := [d1, d2] }
  | _ => none }
def fnExactGrownChainRow : OpenClaim := { program := "ytieibopegmoanaa", sum := "44625a93091f08b9bc5c485214560079b1dde62f002e6e6474480ff3230c27c7", func := "loop.example/g03209/laws.FnExactGrownChain", spec := "fnExactGrownChain", apart := false }
def FnExactGrownChainSaid : Prop := fnExactGrownChainRow.holds Try.pinned (OpenSpec.ofChange fnExactGrownChainSpec)

/-- ITS FALSE NEIGHBOUR: 'it returns false'. Refute it at one input. -/
def fnExactGrownChainWrong : ChangeSpec := { name := "fnExactGrownChain", fn := fun _ => fun
  | [d1, d2] => { results := [.lit (.bool false)], args := [d1, d2] }
  | _ => none }
def FnExactGrownChainWrongFalsely : Prop := fnExactGrownChainRow.holds Try.pinned (OpenSpec.ofChange fnExactGrownChainWrong)

/-- 'laws.FnGolden': WHATEVER THE INPUT: true; the input reads as it did. -/
def fnGoldenSpec : ChangeSpec := { name := "fnGolden", fn := fun _ => fun
  | [d] => { results := [.lit (.bool true)], args := [d] }
  | _ => none }
def fnGoldenRow : OpenClaim := { program := "ytieibopegmoanaa", sum := "44625a93091f08b9bc5c485214560079b1dde62f002e6e6474480ff3230c27c7", func := "loop.example/g03209/laws.FnGolden", spec := "fnGolden", apart := false }
def FnGoldenSaid : Prop := fnGoldenRow.holds Try.pinned (OpenSpec.ofChange fnGoldenSpec)

/-- ITS FALSE NEIGHBOUR: 'it returns false'. Refute it at one input. -/
def fnGoldenWrong : ChangeSpec := { name := "fnGolden", fn := fun _ => fun
  | [d] => { results := [.lit (.bool false)], args := [d] }
  | _ => none }
def FnGoldenWrongFalsely : Prop := fnGoldenRow.holds Try.pinned (OpenSpec.ofChange fnGoldenWrong)

/-- 'laws.FnParents': WHATEVER THE INPUT: true; the input reads as it did. -/
def fnParentsSpec : ChangeSpec := { name := "fnParents", fn := fun _ => fun
  | [d] => { results := [.lit (.bool true)], args := [d] }
  | _ => none }
def fnParentsRow : OpenClaim := { program := "ytieibopegmoanaa", sum := "44625a93091f08b9bc5c485214560079b1dde62f002e6e6474480ff3230c27c7", func := "loop.example/g03209/laws.FnParents", spec := "fnParents", apart := false }
def FnParentsSaid : Prop := fnParentsRow.holds Try.pinned (OpenSpec.ofChange fnParentsSpec)

/-- ITS FALSE NEIGHBOUR: 'it returns false'. Refute it at one input. -/
def fnParentsWrong : ChangeSpec := { name := "fnParents", fn := fun _ => fun
  | [d] => { results := [.lit (.bool false)], args := [d] }
  | _ => none }
def FnParentsWrongFalsely : Prop := fnParentsRow.holds Try.pinned (OpenSpec.ofChange fnParentsWrong)

/- THE SECOND FORM. 'bulk': how many values and letters a reading holds, each counted each time it is reached (what is shared counts as often as it is met; a slice's spare places count too). A statement '..UptoSaid' is the law's where the arguments, and the package variables that the reading takes, are together of bulk at most 1048576: NARROWER than '..Said'. Prove '..Said' where nothing that the law and all that it calls make is longer than what came in: it says more and counts as full. Else prove '..UptoSaid'. A law counts once. -/
mutual
def uptoBulk {H : Type} : DataW H → Nat
  | .lit (.string bytes) => bytes.length + 1
  | .lit _ => 1
  | .nil => 1
  | .ptr d => uptoBulk d + 1
  | .slice elems spare => uptoBulkAll elems + uptoBulkAll spare + 1
  | .agg parts => uptoBulkAll parts + 1
  | .iface _ d => uptoBulk d + 1
  | .map entries => uptoBulkEntries entries + 1
  | .held _ => 1
def uptoBulkAll {H : Type} : List (DataW H) → Nat
  | [] => 0
  | d :: r => uptoBulk d + uptoBulkAll r
def uptoBulkEntries {H : Type} : List (Lit × DataW H) → Nat
  | [] => 0
  | x :: r => uptoBulkEntry x + uptoBulkEntries r
def uptoBulkEntry {H : Type} : Lit × DataW H → Nat
  | (.string bytes, d) => bytes.length + uptoBulk d + 1
  | (_, d) => uptoBulk d + 1
 end
def uptoSmall : (H : Type) → List (DataW H) → Bool := fun _ ds => decide (uptoBulkAll ds ≤ 1048576)
def OpenSpec.upto (s : _root_.Go.ChangeSpec) : _root_.Go.OpenSpec := { _root_.Go.OpenSpec.ofChange s with cond := some uptoSmall }

/-- 'laws.FnExactIsMarked', WHERE WHAT IT READS IS OF BULK AT MOST 1048576: true; the input reads as it did. -/
def fnExactIsMarkedUptoRow : OpenClaim := { program := "ytieibopegmoanaa", sum := "44625a93091f08b9bc5c485214560079b1dde62f002e6e6474480ff3230c27c7", func := "loop.example/g03209/laws.FnExactIsMarked", spec := "fnExactIsMarked", apart := false, narrowed := true }
def FnExactIsMarkedUptoSaid : Prop := fnExactIsMarkedUptoRow.holds Try.pinned (OpenSpec.upto fnExactIsMarkedSpec)

/-- 'laws.FnExactPartParents', WHERE WHAT IT READS IS OF BULK AT MOST 1048576: true; the input reads as it did. -/
def fnExactPartParentsUptoRow : OpenClaim := { program := "ytieibopegmoanaa", sum := "44625a93091f08b9bc5c485214560079b1dde62f002e6e6474480ff3230c27c7", func := "loop.example/g03209/laws.FnExactPartParents", spec := "fnExactPartParents", apart := false, narrowed := true }
def FnExactPartParentsUptoSaid : Prop := fnExactPartParentsUptoRow.holds Try.pinned (OpenSpec.upto fnExactPartParentsSpec)

/-- 'laws.FnExactGrownChain', WHERE WHAT IT READS IS OF BULK AT MOST 1048576: true; the input reads as it did. -/
def fnExactGrownChainUptoRow : OpenClaim := { program := "ytieibopegmoanaa", sum := "44625a93091f08b9bc5c485214560079b1dde62f002e6e6474480ff3230c27c7", func := "loop.example/g03209/laws.FnExactGrownChain", spec := "fnExactGrownChain", apart := false, narrowed := true }
def FnExactGrownChainUptoSaid : Prop := fnExactGrownChainUptoRow.holds Try.pinned (OpenSpec.upto fnExactGrownChainSpec)

/-- 'laws.FnGolden', WHERE WHAT IT READS IS OF BULK AT MOST 1048576: true; the input reads as it did. -/
def fnGoldenUptoRow : OpenClaim := { program := "ytieibopegmoanaa", sum := "44625a93091f08b9bc5c485214560079b1dde62f002e6e6474480ff3230c27c7", func := "loop.example/g03209/laws.FnGolden", spec := "fnGolden", apart := false, narrowed := true }
def FnGoldenUptoSaid : Prop := fnGoldenUptoRow.holds Try.pinned (OpenSpec.upto fnGoldenSpec)

/-- 'laws.FnParents', WHERE WHAT IT READS IS OF BULK AT MOST 1048576: true; the input reads as it did. -/
def fnParentsUptoRow : OpenClaim := { program := "ytieibopegmoanaa", sum := "44625a93091f08b9bc5c485214560079b1dde62f002e6e6474480ff3230c27c7", func := "loop.example/g03209/laws.FnParents", spec := "fnParents", apart := false, narrowed := true }
def FnParentsUptoSaid : Prop := fnParentsUptoRow.holds Try.pinned (OpenSpec.upto fnParentsSpec)

end Rows
end Go.Proofs.Ytieibopegmoanaa
