/- A part of the claim: see the text that holds the theorem. -/
import Derived.Test.YtnfanafcehefiaaGreatDoorSnFactA
import Derived.Test.YtnfanafcehefiaaGreatDoorSnFactB
import Derived.Test.YtnfanafcehefiaaGreatDoorSnFactC
import Derived.Test.YtnfanafcehefiaaGreatDoorSnFactD
import Derived.Test.YtnfanafcehefiaaGreatDoorSnFactE
import Derived.Test.YtnfanafcehefiaaGreatDoorSnFactF
set_option linter.unusedSimpArgs false
set_option linter.unusedVariables false
/-! The closed facts, joined. -/
namespace Go.Proofs.YtnfanafcehefiaaGreatDoor
open Go
set_option maxRecDepth 100000
theorem fact1 : (laidOutB Tryz.prog) = true := by
  unfold laidOutB
  rw [laidA, laidB, laidC]
  rfl
theorem facts : joinedFacts Tryz.prog 3 Tryz.f3 Rows.shellNoneSpec Rows.shellNoneRow = true := by
  unfold joinedFacts
  simp only [Bool.and_eq_true]
  exact ⟨⟨⟨⟨⟨⟨⟨⟨⟨⟨⟨⟨⟨⟨⟨⟨⟨⟨⟨⟨⟨⟨⟨⟨⟨⟨⟨⟨⟨⟨⟨fact0, fact1⟩, fact2⟩, fact3⟩, fact4⟩, fact5⟩, fact6⟩, fact7⟩, fact8⟩, fact9⟩, fact10⟩, fact11⟩, fact12⟩, fact13⟩, fact14⟩, fact15⟩, fact16⟩, fact17⟩, fact18⟩, fact19⟩, fact20⟩, fact21⟩, fact22⟩, fact23⟩, fact24⟩, fact25⟩, fact26⟩, fact27⟩, fact28⟩, fact29⟩, fact30⟩, fact31⟩
end Go.Proofs.YtnfanafcehefiaaGreatDoor
