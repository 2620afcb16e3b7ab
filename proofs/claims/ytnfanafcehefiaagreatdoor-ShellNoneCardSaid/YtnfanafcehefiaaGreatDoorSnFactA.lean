/- A part of the claim: see the text that holds the theorem. -/
import Derived.Test.YtnfanafcehefiaaGreatDoorRows
import Derived.JoinedOf
import Derived.KernelRfl
set_option linter.unusedSimpArgs false
set_option linter.unusedVariables false
/-! The closed facts of the row, one by one. -/
namespace Go.Proofs.YtnfanafcehefiaaGreatDoor
open Go
set_option maxRecDepth 100000
theorem fact0 : (Rows.shellNoneRow.wf (OpenSpec.ofChange Rows.shellNoneSpec)) = true := by kernel_rfl
theorem fact2 : (mapsRowed Tryz.prog) = true := by kernel_rfl
theorem fact3 : (Tryz.f3.params.all (Tryz.prog.readableRec ·)) = true := by kernel_rfl
theorem fact4 : (namedTie Tryz.prog Rows.shellNoneRow.named Rows.shellNoneSpec.vars) = true := by kernel_rfl
theorem fact5 : (Rows.shellNoneRow.stops == []) = true := by kernel_rfl
theorem fact6 : (Tryz.prog.stops == []) = true := by kernel_rfl
theorem fact7 : (Rows.shellNoneRow.knobs == []) = true := by kernel_rfl
theorem fact8 : (Tryz.prog.stopKnobs == []) = true := by kernel_rfl
theorem factName : Tryz.prog.funcNamed "bazaar/bazaarlaw32.ShellNone" = some 3 := by kernel_rfl
end Go.Proofs.YtnfanafcehefiaaGreatDoor
