/-
  No cell of these rows narrows 'for every input' (looked for: loops, veiled, ifaces, maps, wideKeys, modest, calm, conditions, laid).
  DERIVED. THE GIVEN ROWS OF THIS SEAT. 15 by the template 'for every input the law returns true; each argument reads behind the call as it read before'; 0 by the template 'total and deterministic' (their statements: YtehdkfgkahpgbaaTotals.lean).
  GIVEN WITH THE SEED: the statements are not yours to turn. If you find one false, say at which input.
  Laid BY PROGRAM, IN A SANDBOX (cutbox-rows.mjs): the forced cells as the released guide's own fill.sh prints them over the translation 57188e1d47d31c6b… (all of the seat's roots in one cut). By AI agents, Wed Nov 11 2026. No macro, syntax, notation, axiom, sorry.
-/
import Derived.Test.YtehdkfgkahpgbaaChecked
import GoSem.Claim
import GoSem.ClaimJoined
import GoSem.ClaimMapViews
import Derived.JoinedTies
import Derived.KernelRfl
namespace Go.Proofs.Ytehdkfgkahpgbaa
/- THE CELL 'sum', in the pinned program and in every row, IS THE sha256 OF THE DUMP (.gsa) THAT YtehdkfgkahpgbaaProg.lean LOADS. Nothing in Lean hashes anything: it is a label: what it is worth is what the hold of that sum in a sandbox is worth. -/
noncomputable def Try.pinned : Pinned := { name := "ytehdkfgkahpgbaa", sum := "57188e1d47d31c6b084db524da503f238e28ed37f02186a7efba738bf4a7e287", checked := Try.checked }
namespace Rows
def none {H : Type} : Left H := { results := [], args := [] }

/-- 'laws.FnExactGoldOk': WHATEVER THE INPUT: true; the input reads as it did. -/
def fnExactGoldOkSpec : ChangeSpec := { name := "fnExactGoldOk", fn := fun _ => fun
  | [d] => { results := [.lit (.bool true)], args := [d] }
  | _ => none }
def fnExactGoldOkRow : OpenClaim := { program := "ytehdkfgkahpgbaa", sum := "57188e1d47d31c6b084db524da503f238e28ed37f02186a7efba738bf4a7e287", func := "loop.example/g03209/laws.FnExactGoldOk", spec := "fnExactGoldOk", apart := false }
def FnExactGoldOkSaid : Prop := fnExactGoldOkRow.holds Try.pinned (OpenSpec.ofChange fnExactGoldOkSpec)

/-- ITS FALSE NEIGHBOUR: 'it returns false'. Refute it at one input. -/
def fnExactGoldOkWrong : ChangeSpec := { name := "fnExactGoldOk", fn := fun _ => fun
  | [d] => { results := [.lit (.bool false)], args := [d] }
  | _ => none }
def FnExactGoldOkWrongFalsely : Prop := fnExactGoldOkRow.holds Try.pinned (OpenSpec.ofChange fnExactGoldOkWrong)

/-- 'laws.FnExactNormOf': WHATEVER THE INPUT: true; the input reads as it did. -/
def fnExactNormOfSpec : ChangeSpec := { name := "fnExactNormOf", fn := fun _ => fun
  | [d] => { results := [.lit (.bool true)], args := [d] }
  | _ => none }
def fnExactNormOfRow : OpenClaim := { program := "ytehdkfgkahpgbaa", sum := "57188e1d47d31c6b084db524da503f238e28ed37f02186a7efba738bf4a7e287", func := "loop.example/g03209/laws.FnExactNormOf", spec := "fnExactNormOf", apart := false }
def FnExactNormOfSaid : Prop := fnExactNormOfRow.holds Try.pinned (OpenSpec.ofChange fnExactNormOfSpec)

/-- ITS FALSE NEIGHBOUR: 'it returns false'. Refute it at one input. -/
def fnExactNormOfWrong : ChangeSpec := { name := "fnExactNormOf", fn := fun _ => fun
  | [d] => { results := [.lit (.bool false)], args := [d] }
  | _ => none }
def FnExactNormOfWrongFalsely : Prop := fnExactNormOfRow.holds Try.pinned (OpenSpec.ofChange fnExactNormOfWrong)

/-- 'laws.FnExactAddGold': WHATEVER THE INPUT: true; the input reads as it did. -/
def fnExactAddGoldSpec : ChangeSpec := { name := "fnExactAddGold", fn := fun _ => fun
  | [d1, d2] => { results := [.lit (.bool true)], args := [d1, d2] }
  | _ => none }
def fnExactAddGoldRow : OpenClaim := { program := "ytehdkfgkahpgbaa", sum := "57188e1d47d31c6b084db524da503f238e28ed37f02186a7efba738bf4a7e287", func := "loop.example/g03209/laws.FnExactAddGold", spec := "fnExactAddGold", apart := false }
def FnExactAddGoldSaid : Prop := fnExactAddGoldRow.holds Try.pinned (OpenSpec.ofChange fnExactAddGoldSpec)

/-- ITS FALSE NEIGHBOUR: 'it returns false'. Refute it at one input. -/
def fnExactAddGoldWrong : ChangeSpec := { name := "fnExactAddGold", fn := fun _ => fun
  | [d1, d2] => { results := [.lit (.bool false)], args := [d1, d2] }
  | _ => none }
def FnExactAddGoldWrongFalsely : Prop := fnExactAddGoldRow.holds Try.pinned (OpenSpec.ofChange fnExactAddGoldWrong)

/-- 'laws.FnExactMateOf': WHATEVER THE INPUT: true; the input reads as it did. -/
def fnExactMateOfSpec : ChangeSpec := { name := "fnExactMateOf", fn := fun _ => fun
  | [d] => { results := [.lit (.bool true)], args := [d] }
  | _ => none }
def fnExactMateOfRow : OpenClaim := { program := "ytehdkfgkahpgbaa", sum := "57188e1d47d31c6b084db524da503f238e28ed37f02186a7efba738bf4a7e287", func := "loop.example/g03209/laws.FnExactMateOf", spec := "fnExactMateOf", apart := false }
def FnExactMateOfSaid : Prop := fnExactMateOfRow.holds Try.pinned (OpenSpec.ofChange fnExactMateOfSpec)

/-- ITS FALSE NEIGHBOUR: 'it returns false'. Refute it at one input. -/
def fnExactMateOfWrong : ChangeSpec := { name := "fnExactMateOf", fn := fun _ => fun
  | [d] => { results := [.lit (.bool false)], args := [d] }
  | _ => none }
def FnExactMateOfWrongFalsely : Prop := fnExactMateOfRow.holds Try.pinned (OpenSpec.ofChange fnExactMateOfWrong)

/-- 'laws.FnExactSubGold': WHATEVER THE INPUT: true; the input reads as it did. -/
def fnExactSubGoldSpec : ChangeSpec := { name := "fnExactSubGold", fn := fun _ => fun
  | [d1, d2] => { results := [.lit (.bool true)], args := [d1, d2] }
  | _ => none }
def fnExactSubGoldRow : OpenClaim := { program := "ytehdkfgkahpgbaa", sum := "57188e1d47d31c6b084db524da503f238e28ed37f02186a7efba738bf4a7e287", func := "loop.example/g03209/laws.FnExactSubGold", spec := "fnExactSubGold", apart := false }
def FnExactSubGoldSaid : Prop := fnExactSubGoldRow.holds Try.pinned (OpenSpec.ofChange fnExactSubGoldSpec)

/-- ITS FALSE NEIGHBOUR: 'it returns false'. Refute it at one input. -/
def fnExactSubGoldWrong : ChangeSpec := { name := "fnExactSubGold", fn := fun _ => fun
  | [d1, d2] => { results := [.lit (.bool false)], args := [d1, d2] }
  | _ => none }
def FnExactSubGoldWrongFalsely : Prop := fnExactSubGoldRow.holds Try.pinned (OpenSpec.ofChange fnExactSubGoldWrong)

/-- 'laws.FnExactPowerOfGold': WHATEVER THE INPUT: true; the input reads as it did. -/
def fnExactPowerOfGoldSpec : ChangeSpec := { name := "fnExactPowerOfGold", fn := fun _ => fun
  | [d] => { results := [.lit (.bool true)], args := [d] }
  | _ => none }
def fnExactPowerOfGoldRow : OpenClaim := { program := "ytehdkfgkahpgbaa", sum := "57188e1d47d31c6b084db524da503f238e28ed37f02186a7efba738bf4a7e287", func := "loop.example/g03209/laws.FnExactPowerOfGold", spec := "fnExactPowerOfGold", apart := false }
def FnExactPowerOfGoldSaid : Prop := fnExactPowerOfGoldRow.holds Try.pinned (OpenSpec.ofChange fnExactPowerOfGoldSpec)

/-- ITS FALSE NEIGHBOUR: 'it returns false'. Refute it at one input. -/
def fnExactPowerOfGoldWrong : ChangeSpec := { name := "fnExactPowerOfGold", fn := fun _ => fun
  | [d] => { results := [.lit (.bool false)], args := [d] }
  | _ => none }
def FnExactPowerOfGoldWrongFalsely : Prop := fnExactPowerOfGoldRow.holds Try.pinned (OpenSpec.ofChange fnExactPowerOfGoldWrong)

/-- 'laws.FnExactMulGold': WHATEVER THE INPUT: true; the input reads as it did. -/
def fnExactMulGoldSpec : ChangeSpec := { name := "fnExactMulGold", fn := fun _ => fun
  | [d1, d2] => { results := [.lit (.bool true)], args := [d1, d2] }
  | _ => none }
def fnExactMulGoldRow : OpenClaim := { program := "ytehdkfgkahpgbaa", sum := "57188e1d47d31c6b084db524da503f238e28ed37f02186a7efba738bf4a7e287", func := "loop.example/g03209/laws.FnExactMulGold", spec := "fnExactMulGold", apart := false }
def FnExactMulGoldSaid : Prop := fnExactMulGoldRow.holds Try.pinned (OpenSpec.ofChange fnExactMulGoldSpec)

/-- ITS FALSE NEIGHBOUR: 'it returns false'. Refute it at one input. -/
def fnExactMulGoldWrong : ChangeSpec := { name := "fnExactMulGold", fn := fun _ => fun
  | [d1, d2] => { results := [.lit (.bool false)], args := [d1, d2] }
  | _ => none }
def FnExactMulGoldWrongFalsely : Prop := fnExactMulGoldRow.holds Try.pinned (OpenSpec.ofChange fnExactMulGoldWrong)

/-- 'laws.FnExactSignOf': WHATEVER THE INPUT: true; the input reads as it did. -/
def fnExactSignOfSpec : ChangeSpec := { name := "fnExactSignOf", fn := fun _ => fun
  | [d] => { results := [.lit (.bool true)], args := [d] }
  | _ => none }
def fnExactSignOfRow : OpenClaim := { program := "ytehdkfgkahpgbaa", sum := "57188e1d47d31c6b084db524da503f238e28ed37f02186a7efba738bf4a7e287", func := "loop.example/g03209/laws.FnExactSignOf", spec := "fnExactSignOf", apart := false }
def FnExactSignOfSaid : Prop := fnExactSignOfRow.holds Try.pinned (OpenSpec.ofChange fnExactSignOfSpec)

/-- ITS FALSE NEIGHBOUR: 'it returns false'. Refute it at one input. -/
def fnExactSignOfWrong : ChangeSpec := { name := "fnExactSignOf", fn := fun _ => fun
  | [d] => { results := [.lit (.bool false)], args := [d] }
  | _ => none }
def FnExactSignOfWrongFalsely : Prop := fnExactSignOfRow.holds Try.pinned (OpenSpec.ofChange fnExactSignOfWrong)

/-- 'laws.FnExactCompareGold': WHATEVER THE INPUT: true; the input reads as it did. -/
def fnExactCompareGoldSpec : ChangeSpec := { name := "fnExactCompareGold", fn := fun _ => fun
  | [d1, d2] => { results := [.lit (.bool true)], args := [d1, d2] }
  | _ => none }
def fnExactCompareGoldRow : OpenClaim := { program := "ytehdkfgkahpgbaa", sum := "57188e1d47d31c6b084db524da503f238e28ed37f02186a7efba738bf4a7e287", func := "loop.example/g03209/laws.FnExactCompareGold", spec := "fnExactCompareGold", apart := false }
def FnExactCompareGoldSaid : Prop := fnExactCompareGoldRow.holds Try.pinned (OpenSpec.ofChange fnExactCompareGoldSpec)

/-- ITS FALSE NEIGHBOUR: 'it returns false'. Refute it at one input. -/
def fnExactCompareGoldWrong : ChangeSpec := { name := "fnExactCompareGold", fn := fun _ => fun
  | [d1, d2] => { results := [.lit (.bool false)], args := [d1, d2] }
  | _ => none }
def FnExactCompareGoldWrongFalsely : Prop := fnExactCompareGoldRow.holds Try.pinned (OpenSpec.ofChange fnExactCompareGoldWrong)

/-- 'laws.FnExactWindowOk': WHATEVER THE INPUT: true; the input reads as it did. -/
def fnExactWindowOkSpec : ChangeSpec := { name := "fnExactWindowOk", fn := fun _ => fun
  | [d1, d2] => { results := [.lit (.bool true)], args := [d1, d2] }
  | _ => none }
def fnExactWindowOkRow : OpenClaim := { program := "ytehdkfgkahpgbaa", sum := "57188e1d47d31c6b084db524da503f238e28ed37f02186a7efba738bf4a7e287", func := "loop.example/g03209/laws.FnExactWindowOk", spec := "fnExactWindowOk", apart := false }
def FnExactWindowOkSaid : Prop := fnExactWindowOkRow.holds Try.pinned (OpenSpec.ofChange fnExactWindowOkSpec)

/-- ITS FALSE NEIGHBOUR: 'it returns false'. Refute it at one input. -/
def fnExactWindowOkWrong : ChangeSpec := { name := "fnExactWindowOk", fn := fun _ => fun
  | [d1, d2] => { results := [.lit (.bool false)], args := [d1, d2] }
  | _ => none }
def FnExactWindowOkWrongFalsely : Prop := fnExactWindowOkRow.holds Try.pinned (OpenSpec.ofChange fnExactWindowOkWrong)

/-- 'laws.FnExactDivideGold': WHATEVER THE INPUT: true; the input reads as it did. -/
def fnExactDivideGoldSpec : ChangeSpec := { name := "fnExactDivideGold", fn := fun _ => fun
  | [d1, d2] => { results := [.lit (.bool true)], args := [d1, d2] }
  | _ => none }
def fnExactDivideGoldRow : OpenClaim := { program := "ytehdkfgkahpgbaa", sum := "57188e1d47d31c6b084db524da503f238e28ed37f02186a7efba738bf4a7e287", func := "loop.example/g03209/laws.FnExactDivideGold", spec := "fnExactDivideGold", apart := false }
def FnExactDivideGoldSaid : Prop := fnExactDivideGoldRow.holds Try.pinned (OpenSpec.ofChange fnExactDivideGoldSpec)

/-- ITS FALSE NEIGHBOUR: 'it returns false'. Refute it at one input. -/
def fnExactDivideGoldWrong : ChangeSpec := { name := "fnExactDivideGold", fn := fun _ => fun
  | [d1, d2] => { results := [.lit (.bool false)], args := [d1, d2] }
  | _ => none }
def FnExactDivideGoldWrongFalsely : Prop := fnExactDivideGoldRow.holds Try.pinned (OpenSpec.ofChange fnExactDivideGoldWrong)

/-- 'laws.FnExactInChain': WHATEVER THE INPUT: true; the input reads as it did. -/
def fnExactInChainSpec : ChangeSpec := { name := "fnExactInChain", fn := fun _ => fun
  | [d1, d2, d3] => { results := [.lit (.bool true)], args := [d1, d2, d3] }
  | _ => none }
def fnExactInChainRow : OpenClaim := { program := "ytehdkfgkahpgbaa", sum := "57188e1d47d31c6b084db524da503f238e28ed37f02186a7efba738bf4a7e287", func := "loop.example/g03209/laws.FnExactInChain", spec := "fnExactInChain", apart := false }
def FnExactInChainSaid : Prop := fnExactInChainRow.holds Try.pinned (OpenSpec.ofChange fnExactInChainSpec)

/-- ITS FALSE NEIGHBOUR: 'it returns false'. Refute it at one input. -/
def fnExactInChainWrong : ChangeSpec := { name := "fnExactInChain", fn := fun _ => fun
  | [d1, d2, d3] => { results := [.lit (.bool false)], args := [d1, d2, d3] }
  | _ => none }
def FnExactInChainWrongFalsely : Prop := fnExactInChainRow.holds Try.pinned (OpenSpec.ofChange fnExactInChainWrong)

/-- 'laws.FnExactFloorOf': WHATEVER THE INPUT: true; the input reads as it did. -/
def fnExactFloorOfSpec : ChangeSpec := { name := "fnExactFloorOf", fn := fun _ => fun
  | [d] => { results := [.lit (.bool true)], args := [d] }
  | _ => none }
def fnExactFloorOfRow : OpenClaim := { program := "ytehdkfgkahpgbaa", sum := "57188e1d47d31c6b084db524da503f238e28ed37f02186a7efba738bf4a7e287", func := "loop.example/g03209/laws.FnExactFloorOf", spec := "fnExactFloorOf", apart := false }
def FnExactFloorOfSaid : Prop := fnExactFloorOfRow.holds Try.pinned (OpenSpec.ofChange fnExactFloorOfSpec)

/-- ITS FALSE NEIGHBOUR: 'it returns false'. Refute it at one input. -/
def fnExactFloorOfWrong : ChangeSpec := { name := "fnExactFloorOf", fn := fun _ => fun
  | [d] => { results := [.lit (.bool false)], args := [d] }
  | _ => none }
def FnExactFloorOfWrongFalsely : Prop := fnExactFloorOfRow.holds Try.pinned (OpenSpec.ofChange fnExactFloorOfWrong)

/-- 'laws.FnExactGrownChain': WHATEVER THE INPUT: true; the input reads as it did. -/
def fnExactGrownChainSpec : ChangeSpec := { name := "fnExactGrownChain", fn := fun _ => fun
  | [d1, d2] => { results := [.lit (.bool true)], args := [d1, d2] }
  | _ => none }
def fnExactGrownChainRow : OpenClaim := { program := "ytehdkfgkahpgbaa", sum := "57188e1d47d31c6b084db524da503f238e28ed37f02186a7efba738bf4a7e287", func := "loop.example/g03209/laws.FnExactGrownChain", spec := "fnExactGrownChain", apart := false }
def FnExactGrownChainSaid : Prop := fnExactGrownChainRow.holds Try.pinned (OpenSpec.ofChange fnExactGrownChainSpec)

/-- ITS FALSE NEIGHBOUR: 'it returns false'. Refute it at one input. -/
def fnExactGrownChainWrong : ChangeSpec := { name := "fnExactGrownChain", fn := fun _ => fun
  | [d1, d2] => { results := [.lit (.bool false)], args := [d1, d2] }
  | _ => none }
def FnExactGrownChainWrongFalsely : Prop := fnExactGrownChainRow.holds Try.pinned (OpenSpec.ofChange fnExactGrownChainWrong)

/-- 'laws.FnGolden': WHATEVER THE INPUT: true; the input reads as it did. -/
def fnGoldenSpec : ChangeSpec := { name := "fnGolden", fn := fun _ => fun
  | [d] => { results := [.lit (.bool true)], args := [d] }
  | _ => none }
def fnGoldenRow : OpenClaim := { program := "ytehdkfgkahpgbaa", sum := "57188e1d47d31c6b084db524da503f238e28ed37f02186a7efba738bf4a7e287", func := "loop.example/g03209/laws.FnGolden", spec := "fnGolden", apart := false }
def FnGoldenSaid : Prop := fnGoldenRow.holds Try.pinned (OpenSpec.ofChange fnGoldenSpec)

/-- ITS FALSE NEIGHBOUR: 'it returns false'. Refute it at one input. -/
def fnGoldenWrong : ChangeSpec := { name := "fnGolden", fn := fun _ => fun
  | [d] => { results := [.lit (.bool false)], args := [d] }
  | _ => none }
def FnGoldenWrongFalsely : Prop := fnGoldenRow.holds Try.pinned (OpenSpec.ofChange fnGoldenWrong)

/- THE SECOND FORM. 'bulk': how many values and letters a reading holds, each counted each time it is reached (what is shared counts as often as it is met; a slice's spare places count too). A statement '..UptoSaid' is the law's where the arguments, and the package variables that the reading takes, are together of bulk at most 1048576: NARROWER than '..Said'. Prove '..Said' where nothing that the law and all that it calls make is longer than what came in: it says more and counts as full. Else prove '..UptoSaid'. A law counts once. -/
mutual
def uptoBulk {H : Type} : DataW H → Nat
  | .lit (.string bytes) => bytes.length + 1
  | .lit _ => 1
  | .nil => 1
  | .ptr d => uptoBulk d + 1
  | .slice elems spare => uptoBulkAll elems + uptoBulkAll spare + 1
  | .agg parts => uptoBulkAll parts + 1
  | .iface _ d => uptoBulk d + 1
  | .map entries => uptoBulkEntries entries + 1
  | .held _ => 1
def uptoBulkAll {H : Type} : List (DataW H) → Nat
  | [] => 0
  | d :: r => uptoBulk d + uptoBulkAll r
def uptoBulkEntries {H : Type} : List (Lit × DataW H) → Nat
  | [] => 0
  | x :: r => uptoBulkEntry x + uptoBulkEntries r
def uptoBulkEntry {H : Type} : Lit × DataW H → Nat
  | (.string bytes, d) => bytes.length + uptoBulk d + 1
  | (_, d) => uptoBulk d + 1
 end
def uptoSmall : (H : Type) → List (DataW H) → Bool := fun _ ds => decide (uptoBulkAll ds ≤ 1048576)
def OpenSpec.upto (s : _root_.Go.ChangeSpec) : _root_.Go.OpenSpec := { _root_.Go.OpenSpec.ofChange s with cond := some uptoSmall }

/-- 'laws.FnExactGoldOk', WHERE WHAT IT READS IS OF BULK AT MOST 1048576: true; the input reads as it did. -/
def fnExactGoldOkUptoRow : OpenClaim := { program := "ytehdkfgkahpgbaa", sum := "57188e1d47d31c6b084db524da503f238e28ed37f02186a7efba738bf4a7e287", func := "loop.example/g03209/laws.FnExactGoldOk", spec := "fnExactGoldOk", apart := false, narrowed := true }
def FnExactGoldOkUptoSaid : Prop := fnExactGoldOkUptoRow.holds Try.pinned (OpenSpec.upto fnExactGoldOkSpec)

/-- 'laws.FnExactNormOf', WHERE WHAT IT READS IS OF BULK AT MOST 1048576: true; the input reads as it did. -/
def fnExactNormOfUptoRow : OpenClaim := { program := "ytehdkfgkahpgbaa", sum := "57188e1d47d31c6b084db524da503f238e28ed37f02186a7efba738bf4a7e287", func := "loop.example/g03209/laws.FnExactNormOf", spec := "fnExactNormOf", apart := false, narrowed := true }
def FnExactNormOfUptoSaid : Prop := fnExactNormOfUptoRow.holds Try.pinned (OpenSpec.upto fnExactNormOfSpec)

/-- 'laws.FnExactAddGold', WHERE WHAT IT READS IS OF BULK AT MOST 1048576: true; the input reads as it did. -/
def fnExactAddGoldUptoRow : OpenClaim := { program := "ytehdkfgkahpgbaa", sum := "57188e1d47d31c6b084db524da503f238e28ed37f02186a7efba738bf4a7e287", func := "loop.example/g03209/laws.FnExactAddGold", spec := "fnExactAddGold", apart := false, narrowed := true }
def FnExactAddGoldUptoSaid : Prop := fnExactAddGoldUptoRow.holds Try.pinned (OpenSpec.upto fnExactAddGoldSpec)

/-- 'laws.FnExactMateOf', WHERE WHAT IT READS IS OF BULK AT MOST 1048576: true; the input reads as it did. -/
def fnExactMateOfUptoRow : OpenClaim := { program := "ytehdkfgkahpgbaa", sum := "57188e1d47d31c6b084db524da503f238e28ed37f02186a7efba738bf4a7e287", func := "loop.example/g03209/laws.FnExactMateOf", spec := "fnExactMateOf", apart := false, narrowed := true }
def FnExactMateOfUptoSaid : Prop := fnExactMateOfUptoRow.holds Try.pinned (OpenSpec.upto fnExactMateOfSpec)

/-- 'laws.FnExactSubGold', WHERE WHAT IT READS IS OF BULK AT MOST 1048576: true; the input reads as it did. -/
def fnExactSubGoldUptoRow : OpenClaim := { program := "ytehdkfgkahpgbaa", sum := "57188e1d47d31c6b084db524da503f238e28ed37f02186a7efba738bf4a7e287", func := "loop.example/g03209/laws.FnExactSubGold", spec := "fnExactSubGold", apart := false, narrowed := true }
def FnExactSubGoldUptoSaid : Prop := fnExactSubGoldUptoRow.holds Try.pinned (OpenSpec.upto fnExactSubGoldSpec)

/-- 'laws.FnExactPowerOfGold', WHERE WHAT IT READS IS OF BULK AT MOST 1048576: true; the input reads as it did. -/
def fnExactPowerOfGoldUptoRow : OpenClaim := { program := "ytehdkfgkahpgbaa", sum := "57188e1d47d31c6b084db524da503f238e28ed37f02186a7efba738bf4a7e287", func := "loop.example/g03209/laws.FnExactPowerOfGold", spec := "fnExactPowerOfGold", apart := false, narrowed := true }
def FnExactPowerOfGoldUptoSaid : Prop := fnExactPowerOfGoldUptoRow.holds Try.pinned (OpenSpec.upto fnExactPowerOfGoldSpec)

/-- 'laws.FnExactMulGold', WHERE WHAT IT READS IS OF BULK AT MOST 1048576: true; the input reads as it did. -/
def fnExactMulGoldUptoRow : OpenClaim := { program := "ytehdkfgkahpgbaa", sum := "57188e1d47d31c6b084db524da503f238e28ed37f02186a7efba738bf4a7e287", func := "loop.example/g03209/laws.FnExactMulGold", spec := "fnExactMulGold", apart := false, narrowed := true }
def FnExactMulGoldUptoSaid : Prop := fnExactMulGoldUptoRow.holds Try.pinned (OpenSpec.upto fnExactMulGoldSpec)

/-- 'laws.FnExactSignOf', WHERE WHAT IT READS IS OF BULK AT MOST 1048576: true; the input reads as it did. -/
def fnExactSignOfUptoRow : OpenClaim := { program := "ytehdkfgkahpgbaa", sum := "57188e1d47d31c6b084db524da503f238e28ed37f02186a7efba738bf4a7e287", func := "loop.example/g03209/laws.FnExactSignOf", spec := "fnExactSignOf", apart := false, narrowed := true }
def FnExactSignOfUptoSaid : Prop := fnExactSignOfUptoRow.holds Try.pinned (OpenSpec.upto fnExactSignOfSpec)

/-- 'laws.FnExactCompareGold', WHERE WHAT IT READS IS OF BULK AT MOST 1048576: true; the input reads as it did. -/
def fnExactCompareGoldUptoRow : OpenClaim := { program := "ytehdkfgkahpgbaa", sum := "57188e1d47d31c6b084db524da503f238e28ed37f02186a7efba738bf4a7e287", func := "loop.example/g03209/laws.FnExactCompareGold", spec := "fnExactCompareGold", apart := false, narrowed := true }
def FnExactCompareGoldUptoSaid : Prop := fnExactCompareGoldUptoRow.holds Try.pinned (OpenSpec.upto fnExactCompareGoldSpec)

/-- 'laws.FnExactWindowOk', WHERE WHAT IT READS IS OF BULK AT MOST 1048576: true; the input reads as it did. -/
def fnExactWindowOkUptoRow : OpenClaim := { program := "ytehdkfgkahpgbaa", sum := "57188e1d47d31c6b084db524da503f238e28ed37f02186a7efba738bf4a7e287", func := "loop.example/g03209/laws.FnExactWindowOk", spec := "fnExactWindowOk", apart := false, narrowed := true }
def FnExactWindowOkUptoSaid : Prop := fnExactWindowOkUptoRow.holds Try.pinned (OpenSpec.upto fnExactWindowOkSpec)

/-- 'laws.FnExactDivideGold', WHERE WHAT IT READS IS OF BULK AT MOST 1048576: true; the input reads as it did. -/
def fnExactDivideGoldUptoRow : OpenClaim := { program := "ytehdkfgkahpgbaa", sum := "57188e1d47d31c6b084db524da503f238e28ed37f02186a7efba738bf4a7e287", func := "loop.example/g03209/laws.FnExactDivideGold", spec := "fnExactDivideGold", apart := false, narrowed := true }
def FnExactDivideGoldUptoSaid : Prop := fnExactDivideGoldUptoRow.holds Try.pinned (OpenSpec.upto fnExactDivideGoldSpec)

/-- 'laws.FnExactInChain', WHERE WHAT IT READS IS OF BULK AT MOST 1048576: true; the input reads as it did. -/
def fnExactInChainUptoRow : OpenClaim := { program := "ytehdkfgkahpgbaa", sum := "57188e1d47d31c6b084db524da503f238e28ed37f02186a7efba738bf4a7e287", func := "loop.example/g03209/laws.FnExactInChain", spec := "fnExactInChain", apart := false, narrowed := true }
def FnExactInChainUptoSaid : Prop := fnExactInChainUptoRow.holds Try.pinned (OpenSpec.upto fnExactInChainSpec)

/-- 'laws.FnExactFloorOf', WHERE WHAT IT READS IS OF BULK AT MOST 1048576: true; the input reads as it did. -/
def fnExactFloorOfUptoRow : OpenClaim := { program := "ytehdkfgkahpgbaa", sum := "57188e1d47d31c6b084db524da503f238e28ed37f02186a7efba738bf4a7e287", func := "loop.example/g03209/laws.FnExactFloorOf", spec := "fnExactFloorOf", apart := false, narrowed := true }
def FnExactFloorOfUptoSaid : Prop := fnExactFloorOfUptoRow.holds Try.pinned (OpenSpec.upto fnExactFloorOfSpec)

/-- 'laws.FnExactGrownChain', WHERE WHAT IT READS IS OF BULK AT MOST 1048576: true; the input reads as it did. -/
def fnExactGrownChainUptoRow : OpenClaim := { program := "ytehdkfgkahpgbaa", sum := "57188e1d47d31c6b084db524da503f238e28ed37f02186a7efba738bf4a7e287", func := "loop.example/g03209/laws.FnExactGrownChain", spec := "fnExactGrownChain", apart := false, narrowed := true }
def FnExactGrownChainUptoSaid : Prop := fnExactGrownChainUptoRow.holds Try.pinned (OpenSpec.upto fnExactGrownChainSpec)

/-- 'laws.FnGolden', WHERE WHAT IT READS IS OF BULK AT MOST 1048576: true; the input reads as it did. -/
def fnGoldenUptoRow : OpenClaim := { program := "ytehdkfgkahpgbaa", sum := "57188e1d47d31c6b084db524da503f238e28ed37f02186a7efba738bf4a7e287", func := "loop.example/g03209/laws.FnGolden", spec := "fnGolden", apart := false, narrowed := true }
def FnGoldenUptoSaid : Prop := fnGoldenUptoRow.holds Try.pinned (OpenSpec.upto fnGoldenSpec)

end Rows
end Go.Proofs.Ytehdkfgkahpgbaa
