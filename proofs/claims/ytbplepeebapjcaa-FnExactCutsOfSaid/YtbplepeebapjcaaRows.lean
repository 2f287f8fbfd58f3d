/-
  No cell of these rows narrows 'for every input' (looked for: loops, veiled, ifaces, maps, wideKeys, modest, calm, conditions, laid).
  DERIVED. THE GIVEN ROWS OF THIS SEAT. 12 by the template 'for every input the law returns true; each argument reads behind the call as it read before'; 0 by the template 'total and deterministic' (their statements: YtbplepeebapjcaaTotals.lean).
  GIVEN WITH THE SEED: the statements are not yours to turn. If you find one false, say at which input.
  Laid BY PROGRAM, IN A SANDBOX (cutbox-rows.mjs): the forced cells as the released guide's own fill.sh prints them over the translation 868e95087d7f3ac7… (all of the seat's roots in one cut). By AI agents, Wed Nov 11 2026. No macro, syntax, notation, axiom, sorry.
-/
import Derived.Test.YtbplepeebapjcaaChecked
import GoSem.Claim
import GoSem.ClaimJoined
import GoSem.ClaimMapViews
import Derived.JoinedTies
import Derived.KernelRfl
namespace Go.Proofs.Ytbplepeebapjcaa
/- THE CELL 'sum', in the pinned program and in every row, IS THE sha256 OF THE DUMP (.gsa) THAT YtbplepeebapjcaaProg.lean LOADS. Nothing in Lean hashes anything: it is a label: what it is worth is what the hold of that sum in a sandbox is worth. -/
noncomputable def Try.pinned : Pinned := { name := "ytbplepeebapjcaa", sum := "868e95087d7f3ac7557deef4805515cf83c4d4971b9cdd72150e8f885e3700f6", checked := Try.checked }
namespace Rows
def none {H : Type} : Left H := { results := [], args := [] }

/-- 'laws.FnExactFromDerived': WHATEVER THE INPUT: true; the input reads as it did. -/
def fnExactFromDerivedSpec : ChangeSpec := { name := "fnExactFromDerived", fn := fun _ => fun
  | [d1, d2] => { results := [.lit (.bool true)], args := [d1, d2] }
  | _ => none }
def fnExactFromDerivedRow : OpenClaim := { program := "ytbplepeebapjcaa", sum := "868e95087d7f3ac7557deef4805515cf83c4d4971b9cdd72150e8f885e3700f6", func := "loop.example/g03209/laws.FnExactFromDerived", spec := "fnExactFromDerived", apart := false }
def FnExactFromDerivedSaid : Prop := fnExactFromDerivedRow.holds Try.pinned (OpenSpec.ofChange fnExactFromDerivedSpec)

/-- ITS FALSE NEIGHBOUR: 'it returns false'. Refute it at one input. -/
def fnExactFromDerivedWrong : ChangeSpec := { name := "fnExactFromDerived", fn := fun _ => fun
  | [d1, d2] => { results := [.lit (.bool false)], args := [d1, d2] }
  | _ => none }
def FnExactFromDerivedWrongFalsely : Prop := fnExactFromDerivedRow.holds Try.pinned (OpenSpec.ofChange fnExactFromDerivedWrong)

/-- 'laws.FnExactLongestReturn': WHATEVER THE INPUT: true; the input reads as it did. -/
def fnExactLongestReturnSpec : ChangeSpec := { name := "fnExactLongestReturn", fn := fun _ => fun
  | [d1, d2] => { results := [.lit (.bool true)], args := [d1, d2] }
  | _ => none }
def fnExactLongestReturnRow : OpenClaim := { program := "ytbplepeebapjcaa", sum := "868e95087d7f3ac7557deef4805515cf83c4d4971b9cdd72150e8f885e3700f6", func := "loop.example/g03209/laws.FnExactLongestReturn", spec := "fnExactLongestReturn", apart := false }
def FnExactLongestReturnSaid : Prop := fnExactLongestReturnRow.holds Try.pinned (OpenSpec.ofChange fnExactLongestReturnSpec)

/-- ITS FALSE NEIGHBOUR: 'it returns false'. Refute it at one input. -/
def fnExactLongestReturnWrong : ChangeSpec := { name := "fnExactLongestReturn", fn := fun _ => fun
  | [d1, d2] => { results := [.lit (.bool false)], args := [d1, d2] }
  | _ => none }
def FnExactLongestReturnWrongFalsely : Prop := fnExactLongestReturnRow.holds Try.pinned (OpenSpec.ofChange fnExactLongestReturnWrong)

/-- 'laws.FnExactDerivedWord': WHATEVER THE INPUT: true; the input reads as it did. -/
def fnExactDerivedWordSpec : ChangeSpec := { name := "fnExactDerivedWord", fn := fun _ => fun
  | [d1, d2] => { results := [.lit (.bool true)], args := [d1, d2] }
  | _ => none }
def fnExactDerivedWordRow : OpenClaim := { program := "ytbplepeebapjcaa", sum := "868e95087d7f3ac7557deef4805515cf83c4d4971b9cdd72150e8f885e3700f6", func := "loop.example/g03209/laws.FnExactDerivedWord", spec := "fnExactDerivedWord", apart := false }
def FnExactDerivedWordSaid : Prop := fnExactDerivedWordRow.holds Try.pinned (OpenSpec.ofChange fnExactDerivedWordSpec)

/-- ITS FALSE NEIGHBOUR: 'it returns false'. Refute it at one input. -/
def fnExactDerivedWordWrong : ChangeSpec := { name := "fnExactDerivedWord", fn := fun _ => fun
  | [d1, d2] => { results := [.lit (.bool false)], args := [d1, d2] }
  | _ => none }
def FnExactDerivedWordWrongFalsely : Prop := fnExactDerivedWordRow.holds Try.pinned (OpenSpec.ofChange fnExactDerivedWordWrong)

/-- 'laws.FnExactReturnWords': WHATEVER THE INPUT: true; the input reads as it did. -/
def fnExactReturnWordsSpec : ChangeSpec := { name := "fnExactReturnWords", fn := fun _ => fun
  | [d1, d2] => { results := [.lit (.bool true)], args := [d1, d2] }
  | _ => none }
def fnExactReturnWordsRow : OpenClaim := { program := "ytbplepeebapjcaa", sum := "868e95087d7f3ac7557deef4805515cf83c4d4971b9cdd72150e8f885e3700f6", func := "loop.example/g03209/laws.FnExactReturnWords", spec := "fnExactReturnWords", apart := false }
def FnExactReturnWordsSaid : Prop := fnExactReturnWordsRow.holds Try.pinned (OpenSpec.ofChange fnExactReturnWordsSpec)

/-- ITS FALSE NEIGHBOUR: 'it returns false'. Refute it at one input. -/
def fnExactReturnWordsWrong : ChangeSpec := { name := "fnExactReturnWords", fn := fun _ => fun
  | [d1, d2] => { results := [.lit (.bool false)], args := [d1, d2] }
  | _ => none }
def FnExactReturnWordsWrongFalsely : Prop := fnExactReturnWordsRow.holds Try.pinned (OpenSpec.ofChange fnExactReturnWordsWrong)

/-- 'laws.FnExactFullReturns': WHATEVER THE INPUT: true; the input reads as it did. -/
def fnExactFullReturnsSpec : ChangeSpec := { name := "fnExactFullReturns", fn := fun _ => fun
  | [d1, d2] => { results := [.lit (.bool true)], args := [d1, d2] }
  | _ => none }
def fnExactFullReturnsRow : OpenClaim := { program := "ytbplepeebapjcaa", sum := "868e95087d7f3ac7557deef4805515cf83c4d4971b9cdd72150e8f885e3700f6", func := "loop.example/g03209/laws.FnExactFullReturns", spec := "fnExactFullReturns", apart := false }
def FnExactFullReturnsSaid : Prop := fnExactFullReturnsRow.holds Try.pinned (OpenSpec.ofChange fnExactFullReturnsSpec)

/-- ITS FALSE NEIGHBOUR: 'it returns false'. Refute it at one input. -/
def fnExactFullReturnsWrong : ChangeSpec := { name := "fnExactFullReturns", fn := fun _ => fun
  | [d1, d2] => { results := [.lit (.bool false)], args := [d1, d2] }
  | _ => none }
def FnExactFullReturnsWrongFalsely : Prop := fnExactFullReturnsRow.holds Try.pinned (OpenSpec.ofChange fnExactFullReturnsWrong)

/-- 'laws.FnExactReturnSubst': WHATEVER THE INPUT: true; the input reads as it did. -/
def fnExactReturnSubstSpec : ChangeSpec := { name := "fnExactReturnSubst", fn := fun _ => fun
  | [d1, d2] => { results := [.lit (.bool true)], args := [d1, d2] }
  | _ => none }
def fnExactReturnSubstRow : OpenClaim := { program := "ytbplepeebapjcaa", sum := "868e95087d7f3ac7557deef4805515cf83c4d4971b9cdd72150e8f885e3700f6", func := "loop.example/g03209/laws.FnExactReturnSubst", spec := "fnExactReturnSubst", apart := false }
def FnExactReturnSubstSaid : Prop := fnExactReturnSubstRow.holds Try.pinned (OpenSpec.ofChange fnExactReturnSubstSpec)

/-- ITS FALSE NEIGHBOUR: 'it returns false'. Refute it at one input. -/
def fnExactReturnSubstWrong : ChangeSpec := { name := "fnExactReturnSubst", fn := fun _ => fun
  | [d1, d2] => { results := [.lit (.bool false)], args := [d1, d2] }
  | _ => none }
def FnExactReturnSubstWrongFalsely : Prop := fnExactReturnSubstRow.holds Try.pinned (OpenSpec.ofChange fnExactReturnSubstWrong)

/-- 'laws.FnExactIsMarked': WHATEVER THE INPUT: true; the input reads as it did. -/
def fnExactIsMarkedSpec : ChangeSpec := { name := "fnExactIsMarked", fn := fun _ => fun
  | [d] => { results := [.lit (.bool true)], args := [d] }
  | _ => none }
def fnExactIsMarkedRow : OpenClaim := { program := "ytbplepeebapjcaa", sum := "868e95087d7f3ac7557deef4805515cf83c4d4971b9cdd72150e8f885e3700f6", func := "loop.example/g03209/laws.FnExactIsMarked", spec := "fnExactIsMarked", apart := false }
def FnExactIsMarkedSaid : Prop := fnExactIsMarkedRow.holds Try.pinned (OpenSpec.ofChange fnExactIsMarkedSpec)

/-- ITS FALSE NEIGHBOUR: 'it returns false'. Refute it at one input. -/
def fnExactIsMarkedWrong : ChangeSpec := { name := "fnExactIsMarked", fn := fun _ => fun
  | [d] => { results := [.lit (.bool false)], args := [d] }
  | _ => none }
def FnExactIsMarkedWrongFalsely : Prop := fnExactIsMarkedRow.holds Try.pinned (OpenSpec.ofChange fnExactIsMarkedWrong)

/-- 'laws.FnExactCountParents': WHATEVER THE INPUT: true; the input reads as it did. -/
def fnExactCountParentsSpec : ChangeSpec := { name := "fnExactCountParents", fn := fun _ => fun
  | [d1, d2] => { results := [.lit (.bool true)], args := [d1, d2] }
  | _ => none }
def fnExactCountParentsRow : OpenClaim := { program := "ytbplepeebapjcaa", sum := "868e95087d7f3ac7557deef4805515cf83c4d4971b9cdd72150e8f885e3700f6", func := "loop.example/g03209/laws.FnExactCountParents", spec := "fnExactCountParents", apart := false }
def FnExactCountParentsSaid : Prop := fnExactCountParentsRow.holds Try.pinned (OpenSpec.ofChange fnExactCountParentsSpec)

/-- ITS FALSE NEIGHBOUR: 'it returns false'. Refute it at one input. -/
def fnExactCountParentsWrong : ChangeSpec := { name := "fnExactCountParents", fn := fun _ => fun
  | [d1, d2] => { results := [.lit (.bool false)], args := [d1, d2] }
  | _ => none }
def FnExactCountParentsWrongFalsely : Prop := fnExactCountParentsRow.holds Try.pinned (OpenSpec.ofChange fnExactCountParentsWrong)

/-- 'laws.FnExactParentOf': WHATEVER THE INPUT: true; the input reads as it did. -/
def fnExactParentOfSpec : ChangeSpec := { name := "fnExactParentOf", fn := fun _ => fun
  | [d1, d2] => { results := [.lit (.bool true)], args := [d1, d2] }
  | _ => none }
def fnExactParentOfRow : OpenClaim := { program := "ytbplepeebapjcaa", sum := "868e95087d7f3ac7557deef4805515cf83c4d4971b9cdd72150e8f885e3700f6", func := "loop.example/g03209/laws.FnExactParentOf", spec := "fnExactParentOf", apart := false }
def FnExactParentOfSaid : Prop := fnExactParentOfRow.holds Try.pinned (OpenSpec.ofChange fnExactParentOfSpec)

/-- ITS FALSE NEIGHBOUR: 'it returns false'. Refute it at one input. -/
def fnExactParentOfWrong : ChangeSpec := { name := "fnExactParentOf", fn := fun _ => fun
  | [d1, d2] => { results := [.lit (.bool false)], args := [d1, d2] }
  | _ => none }
def FnExactParentOfWrongFalsely : Prop := fnExactParentOfRow.holds Try.pinned (OpenSpec.ofChange fnExactParentOfWrong)

/-- 'laws.FnExactAncestorOf': WHATEVER THE INPUT: true; the input reads as it did. -/
def fnExactAncestorOfSpec : ChangeSpec := { name := "fnExactAncestorOf", fn := fun _ => fun
  | [d1, d2] => { results := [.lit (.bool true)], args := [d1, d2] }
  | _ => none }
def fnExactAncestorOfRow : OpenClaim := { program := "ytbplepeebapjcaa", sum := "868e95087d7f3ac7557deef4805515cf83c4d4971b9cdd72150e8f885e3700f6", func := "loop.example/g03209/laws.FnExactAncestorOf", spec := "fnExactAncestorOf", apart := false }
def FnExactAncestorOfSaid : Prop := fnExactAncestorOfRow.holds Try.pinned (OpenSpec.ofChange fnExactAncestorOfSpec)

/-- ITS FALSE NEIGHBOUR: 'it returns false'. Refute it at one input. -/
def fnExactAncestorOfWrong : ChangeSpec := { name := "fnExactAncestorOf", fn := fun _ => fun
  | [d1, d2] => { results := [.lit (.bool false)], args := [d1, d2] }
  | _ => none }
def FnExactAncestorOfWrongFalsely : Prop := fnExactAncestorOfRow.holds Try.pinned (OpenSpec.ofChange fnExactAncestorOfWrong)

/-- 'laws.FnExactCutsOf': WHATEVER THE INPUT: true; the input reads as it did. -/
def fnExactCutsOfSpec : ChangeSpec := { name := "fnExactCutsOf", fn := fun _ => fun
  | [d1, d2] => { results := [.lit (.bool true)], args := [d1, d2] }
  | _ => none }
def fnExactCutsOfRow : OpenClaim := { program := "ytbplepeebapjcaa", sum := "868e95087d7f3ac7557deef4805515cf83c4d4971b9cdd72150e8f885e3700f6", func := "loop.example/g03209/laws.FnExactCutsOf", spec := "fnExactCutsOf", apart := false }
def FnExactCutsOfSaid : Prop := fnExactCutsOfRow.holds Try.pinned (OpenSpec.ofChange fnExactCutsOfSpec)

/-- ITS FALSE NEIGHBOUR: 'it returns false'. Refute it at one input. -/
def fnExactCutsOfWrong : ChangeSpec := { name := "fnExactCutsOf", fn := fun _ => fun
  | [d1, d2] => { results := [.lit (.bool false)], args := [d1, d2] }
  | _ => none }
def FnExactCutsOfWrongFalsely : Prop := fnExactCutsOfRow.holds Try.pinned (OpenSpec.ofChange fnExactCutsOfWrong)

/-- 'laws.FnExactPartParents': WHATEVER THE INPUT: true; the input reads as it did. -/
def fnExactPartParentsSpec : ChangeSpec := { name := "fnExactPartParents", fn := fun _ => fun
  | [d1, d2] => { results := [.lit (.bool true)], args := [d1, d2] }
  | _ => none }
def fnExactPartParentsRow : OpenClaim := { program := "ytbplepeebapjcaa", sum := "868e95087d7f3ac7557deef4805515cf83c4d4971b9cdd72150e8f885e3700f6", func := "loop.example/g03209/laws.FnExactPartParents", spec := "fnExactPartParents", apart := false }
def FnExactPartParentsSaid : Prop := fnExactPartParentsRow.holds Try.pinned (OpenSpec.ofChange fnExactPartParentsSpec)

/-- ITS FALSE NEIGHBOUR: 'it returns false'. Refute it at one input. -/
def fnExactPartParentsWrong : ChangeSpec := { name := "fnExactPartParents", fn := fun _ => fun
  | [d1, d2] => { results := [.lit (.bool false)], args := [d1, d2] }
  | _ => none }
def FnExactPartParentsWrongFalsely : Prop := fnExactPartParentsRow.holds Try.pinned (OpenSpec.ofChange fnExactPartParentsWrong)

/- THE SECOND FORM. 'bulk': how many values and letters a reading holds, each counted each time it is reached (what is shared counts as often as it is met; a slice's spare places count too). A statement '..UptoSaid' is the law's where the arguments, and the package variables that the reading takes, are together of bulk at most 1048576: NARROWER than '..Said'. Prove '..Said' where nothing that the law and all that it calls make is longer than what came in: it says more and counts as full. Else prove '..UptoSaid'. A law counts once. -/
mutual
def uptoBulk {H : Type} : DataW H → Nat
  | .lit (.string bytes) => bytes.length + 1
  | .lit _ => 1
  | .nil => 1
  | .ptr d => uptoBulk d + 1
  | .slice elems spare => uptoBulkAll elems + uptoBulkAll spare + 1
  | .agg parts => uptoBulkAll parts + 1
  | .iface _ d => uptoBulk d + 1
  | .map entries => uptoBulkEntries entries + 1
  | .held _ => 1
def uptoBulkAll {H : Type} : List (DataW H) → Nat
  | [] => 0
  | d :: r => uptoBulk d + uptoBulkAll r
def uptoBulkEntries {H : Type} : List (Lit × DataW H) → Nat
  | [] => 0
  | x :: r => uptoBulkEntry x + uptoBulkEntries r
def uptoBulkEntry {H : Type} : Lit × DataW H → Nat
  | (.string bytes, d) => bytes.length + uptoBulk d + 1
  | (_, d) => uptoBulk d + 1
 end
def uptoSmall : (H : Type) → List (DataW H) → Bool := fun _ ds => decide (uptoBulkAll ds ≤ 1048576)
def OpenSpec.upto (s : _root_.Go.ChangeSpec) : _root_.Go.OpenSpec := { _root_.Go.OpenSpec.ofChange s with cond := some uptoSmall }

/-- 'laws.FnExactFromDerived', WHERE WHAT IT READS IS OF BULK AT MOST 1048576: true; the input reads as it did. -/
def fnExactFromDerivedUptoRow : OpenClaim := { program := "ytbplepeebapjcaa", sum := "868e95087d7f3ac7557deef4805515cf83c4d4971b9cdd72150e8f885e3700f6", func := "loop.example/g03209/laws.FnExactFromDerived", spec := "fnExactFromDerived", apart := false, narrowed := true }
def FnExactFromDerivedUptoSaid : Prop := fnExactFromDerivedUptoRow.holds Try.pinned (OpenSpec.upto fnExactFromDerivedSpec)

/-- 'laws.FnExactLongestReturn', WHERE WHAT IT READS IS OF BULK AT MOST 1048576: true; the input reads as it did. -/
def fnExactLongestReturnUptoRow : OpenClaim := { program := "ytbplepeebapjcaa", sum := "868e95087d7f3ac7557deef4805515cf83c4d4971b9cdd72150e8f885e3700f6", func := "loop.example/g03209/laws.FnExactLongestReturn", spec := "fnExactLongestReturn", apart := false, narrowed := true }
def FnExactLongestReturnUptoSaid : Prop := fnExactLongestReturnUptoRow.holds Try.pinned (OpenSpec.upto fnExactLongestReturnSpec)

/-- 'laws.FnExactDerivedWord', WHERE WHAT IT READS IS OF BULK AT MOST 1048576: true; the input reads as it did. -/
def fnExactDerivedWordUptoRow : OpenClaim := { program := "ytbplepeebapjcaa", sum := "868e95087d7f3ac7557deef4805515cf83c4d4971b9cdd72150e8f885e3700f6", func := "loop.example/g03209/laws.FnExactDerivedWord", spec := "fnExactDerivedWord", apart := false, narrowed := true }
def FnExactDerivedWordUptoSaid : Prop := fnExactDerivedWordUptoRow.holds Try.pinned (OpenSpec.upto fnExactDerivedWordSpec)

/-- 'laws.FnExactReturnWords', WHERE WHAT IT READS IS OF BULK AT MOST 1048576: true; the input reads as it did. -/
def fnExactReturnWordsUptoRow : OpenClaim := { program := "ytbplepeebapjcaa", sum := "868e95087d7f3ac7557deef4805515cf83c4d4971b9cdd72150e8f885e3700f6", func := "loop.example/g03209/laws.FnExactReturnWords", spec := "fnExactReturnWords", apart := false, narrowed := true }
def FnExactReturnWordsUptoSaid : Prop := fnExactReturnWordsUptoRow.holds Try.pinned (OpenSpec.upto fnExactReturnWordsSpec)

/-- 'laws.FnExactFullReturns', WHERE WHAT IT READS IS OF BULK AT MOST 1048576: true; the input reads as it did. -/
def fnExactFullReturnsUptoRow : OpenClaim := { program := "ytbplepeebapjcaa", sum := "868e95087d7f3ac7557deef4805515cf83c4d4971b9cdd72150e8f885e3700f6", func := "loop.example/g03209/laws.FnExactFullReturns", spec := "fnExactFullReturns", apart := false, narrowed := true }
def FnExactFullReturnsUptoSaid : Prop := fnExactFullReturnsUptoRow.holds Try.pinned (OpenSpec.upto fnExactFullReturnsSpec)

/-- 'laws.FnExactReturnSubst', WHERE WHAT IT READS IS OF BULK AT MOST 1048576: true; the input reads as it did. -/
def fnExactReturnSubstUptoRow : OpenClaim := { program := "ytbplepeebapjcaa", sum := "868e95087d7f3ac7557deef4805515cf83c4d4971b9cdd72150e8f885e3700f6", func := "loop.example/g03209/laws.FnExactReturnSubst", spec := "fnExactReturnSubst", apart := false, narrowed := true }
def FnExactReturnSubstUptoSaid : Prop := fnExactReturnSubstUptoRow.holds Try.pinned (OpenSpec.upto fnExactReturnSubstSpec)

/-- 'laws.FnExactIsMarked', WHERE WHAT IT READS IS OF BULK AT MOST 1048576: true; the input reads as it did. -/
def fnExactIsMarkedUptoRow : OpenClaim := { program := "ytbplepeebapjcaa", sum := "868e95087d7f3ac7557deef4805515cf83c4d4971b9cdd72150e8f885e3700f6", func := "loop.example/g03209/laws.FnExactIsMarked", spec := "fnExactIsMarked", apart := false, narrowed := true }
def FnExactIsMarkedUptoSaid : Prop := fnExactIsMarkedUptoRow.holds Try.pinned (OpenSpec.upto fnExactIsMarkedSpec)

/-- 'laws.FnExactCountParents', WHERE WHAT IT READS IS OF BULK AT MOST 1048576: true; the input reads as it did. -/
def fnExactCountParentsUptoRow : OpenClaim := { program := "ytbplepeebapjcaa", sum := "868e95087d7f3ac7557deef4805515cf83c4d4971b9cdd72150e8f885e3700f6", func := "loop.example/g03209/laws.FnExactCountParents", spec := "fnExactCountParents", apart := false, narrowed := true }
def FnExactCountParentsUptoSaid : Prop := fnExactCountParentsUptoRow.holds Try.pinned (OpenSpec.upto fnExactCountParentsSpec)

/-- 'laws.FnExactParentOf', WHERE WHAT IT READS IS OF BULK AT MOST 1048576: true; the input reads as it did. -/
def fnExactParentOfUptoRow : OpenClaim := { program := "ytbplepeebapjcaa", sum := "868e95087d7f3ac7557deef4805515cf83c4d4971b9cdd72150e8f885e3700f6", func := "loop.example/g03209/laws.FnExactParentOf", spec := "fnExactParentOf", apart := false, narrowed := true }
def FnExactParentOfUptoSaid : Prop := fnExactParentOfUptoRow.holds Try.pinned (OpenSpec.upto fnExactParentOfSpec)

/-- 'laws.FnExactAncestorOf', WHERE WHAT IT READS IS OF BULK AT MOST 1048576: true; the input reads as it did. -/
def fnExactAncestorOfUptoRow : OpenClaim := { program := "ytbplepeebapjcaa", sum := "868e95087d7f3ac7557deef4805515cf83c4d4971b9cdd72150e8f885e3700f6", func := "loop.example/g03209/laws.FnExactAncestorOf", spec := "fnExactAncestorOf", apart := false, narrowed := true }
def FnExactAncestorOfUptoSaid : Prop := fnExactAncestorOfUptoRow.holds Try.pinned (OpenSpec.upto fnExactAncestorOfSpec)

/-- 'laws.FnExactCutsOf', WHERE WHAT IT READS IS OF BULK AT MOST 1048576: true; the input reads as it did. -/
def fnExactCutsOfUptoRow : OpenClaim := { program := "ytbplepeebapjcaa", sum := "868e95087d7f3ac7557deef4805515cf83c4d4971b9cdd72150e8f885e3700f6", func := "loop.example/g03209/laws.FnExactCutsOf", spec := "fnExactCutsOf", apart := false, narrowed := true }
def FnExactCutsOfUptoSaid : Prop := fnExactCutsOfUptoRow.holds Try.pinned (OpenSpec.upto fnExactCutsOfSpec)

/-- 'laws.FnExactPartParents', WHERE WHAT IT READS IS OF BULK AT MOST 1048576: true; the input reads as it did. -/
def fnExactPartParentsUptoRow : OpenClaim := { program := "ytbplepeebapjcaa", sum := "868e95087d7f3ac7557deef4805515cf83c4d4971b9cdd72150e8f885e3700f6", func := "loop.example/g03209/laws.FnExactPartParents", spec := "fnExactPartParents", apart := false, narrowed := true }
def FnExactPartParentsUptoSaid : Prop := fnExactPartParentsUptoRow.holds Try.pinned (OpenSpec.upto fnExactPartParentsSpec)

end Rows
end Go.Proofs.Ytbplepeebapjcaa
