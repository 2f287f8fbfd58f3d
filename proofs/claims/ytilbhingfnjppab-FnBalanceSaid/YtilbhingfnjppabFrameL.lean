/- What every row of this seat uses beside its walk: the program's own closed facts, the forms of the arguments. -/
import Derived.Test.YtilbhingfnjppabRowIn
import Derived.ProofKit
import Derived.OpenShut
import Derived.ShutString
import Derived.Lib.SmallJoins
set_option linter.unusedSimpArgs false
set_option linter.unusedVariables false
namespace Go.Proofs.Ytilbhingfnjppab
open Go.ChangeShapes Go.WideShapes Go.ChangeAt Go.RowKit
theorem own : ownKnob Try.prog.godebug = none := by kernel_rfl
theorem laidOut : laidOutB Try.prog = true := by kernel_rfl
/- Three closed facts of the program that cost the kernel most, once for all rows. -/
theorem heavy : (Try.prog.mayEnter && ((Try.prog.liftsFinal == Rows.fnParentsRow.lifted) && (Try.prog.make == some Rows.fnParentsRow.make))) = true := by kernel_rfl
theorem heavyMay : Try.prog.mayEnter = true := by have h := heavy; rw [Bool.and_eq_true] at h; exact h.1
theorem heavyLifts : Try.prog.liftsFinal = Rows.fnParentsRow.lifted := by have h := heavy; rw [Bool.and_eq_true, Bool.and_eq_true] at h; exact eq_of_beq h.2.1
theorem heavyMake : Try.prog.make = some Rows.fnParentsRow.make := by have h := heavy; rw [Bool.and_eq_true, Bool.and_eq_true] at h; exact eq_of_beq h.2.2
theorem i64_of_wf {a : Int} (h : (Lit.int .i64 a).wf = true) : -9223372036854775808 ≤ a ∧ a ≤ 9223372036854775807 := by
  simpa [Lit.wf, IntKind.min, IntKind.max, IntKind.signed, IntKind.bits] using h
end Go.Proofs.Ytilbhingfnjppab
