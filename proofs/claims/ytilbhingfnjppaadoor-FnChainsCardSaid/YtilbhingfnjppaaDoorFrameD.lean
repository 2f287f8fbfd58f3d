/- What every card of this seat uses beside its walk: the program's own closed facts, the forms of the arguments, the tie. -/
import Derived.Test.YtilbhingfnjppaaDoorRowIn
import Derived.Test.YtilbhingfnjppaaDoorTie
import Derived.Test.YtilbhingfnjppaaDoorCards
import Derived.ProofKit
import Derived.OpenShut
import Derived.ShutString
import Derived.Lib.SmallJoins
import Derived.Lay
import Derived.LaidOnce
import Derived.SevenTiedAt
set_option linter.unusedSimpArgs false
set_option linter.unusedVariables false
namespace Go.Proofs.YtilbhingfnjppaaDoor
open Go.ChangeShapes Go.WideShapes Go.ChangeAt Go.RowKit
theorem own : ownKnob Tryd.prog.godebug = none := by kernel_rfl
theorem laidOut : laidOutB Tryd.prog = true := by kernel_rfl
/- Three closed facts of the program that cost the kernel most, once for all rows. -/
theorem heavy : (Tryd.prog.mayEnter && ((Tryd.prog.liftsFinal == Rows.fnExactEndingOfRow.lifted) && (Tryd.prog.make == some Rows.fnExactEndingOfRow.make))) = true := by kernel_rfl
theorem heavyMay : Tryd.prog.mayEnter = true := by have h := heavy; rw [Bool.and_eq_true] at h; exact h.1
theorem heavyLifts : Tryd.prog.liftsFinal = Rows.fnExactEndingOfRow.lifted := by have h := heavy; rw [Bool.and_eq_true, Bool.and_eq_true] at h; exact eq_of_beq h.2.1
theorem heavyMake : Tryd.prog.make = some Rows.fnExactEndingOfRow.make := by have h := heavy; rw [Bool.and_eq_true, Bool.and_eq_true] at h; exact eq_of_beq h.2.2
theorem i64_of_wf {a : Int} (h : (Lit.int .i64 a).wf = true) : -9223372036854775808 ≤ a ∧ a ≤ 9223372036854775807 := by
  simpa [Lit.wf, IntKind.min, IntKind.max, IntKind.signed, IntKind.bits] using h
end Go.Proofs.YtilbhingfnjppaaDoor
