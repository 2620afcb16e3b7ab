/- A part of the claim: see the text that holds the theorem. -/
import Derived.Test.YtnfanafcehefiaaGreatDoorRows
import Derived.JoinedOf
set_option linter.unusedSimpArgs false
set_option linter.unusedVariables false
namespace Go.Proofs.YtnfanafcehefiaaGreatDoor
open Go
set_option maxRecDepth 100000
theorem laidA : ((List.range Tryz.prog.types.size).all (rowFine Tryz.prog)) = true := by kernel_rfl
end Go.Proofs.YtnfanafcehefiaaGreatDoor
