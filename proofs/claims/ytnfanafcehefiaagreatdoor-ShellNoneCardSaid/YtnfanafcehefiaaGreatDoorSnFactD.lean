/- A part of the claim: see the text that holds the theorem. -/
import Derived.Test.YtnfanafcehefiaaGreatDoorSnRoad
import Derived.JoinedOf
set_option linter.unusedSimpArgs false
set_option linter.unusedVariables false
/-! The closed facts that speak of the road: the variables. -/
namespace Go.Proofs.YtnfanafcehefiaaGreatDoor
open Go
set_option maxRecDepth 100000
theorem fact12 : (Rows.shellNoneRow.named == Tryz.prog.varsNamed 3) = true := by
  unfold Program.varsNamed
  rw [road]
  kernel_rfl
end Go.Proofs.YtnfanafcehefiaaGreatDoor
