/- A part of the claim: see the text that holds the theorem. -/
import Derived.Test.YtnfanafcehefiaaGreatDoorSnRoad
import Derived.JoinedOf
set_option linter.unusedSimpArgs false
set_option linter.unusedVariables false
/-! The closed facts that speak of the road. -/
namespace Go.Proofs.YtnfanafcehefiaaGreatDoor
open Go
set_option maxRecDepth 100000

theorem fact9 : (Rows.shellNoneRow.inPlace == Tryz.prog.inPlace 3) = true := by
  unfold Program.inPlace
  rw [road]
  kernel_rfl
theorem roadOpen : Tryz.prog.unfollowed 3 = true := by
  unfold Program.unfollowed
  rw [road]
  kernel_rfl
theorem fact10 : (Rows.shellNoneRow.unfollowed == Tryz.prog.unfollowed 3) = true := by
  rw [roadOpen]; rfl
theorem fact11 : (Rows.shellNoneRow.recurses == Tryz.prog.recurses 3) = true := by
  unfold Program.recurses
  rw [roadOpen, Bool.true_or]; rfl
end Go.Proofs.YtnfanafcehefiaaGreatDoor
