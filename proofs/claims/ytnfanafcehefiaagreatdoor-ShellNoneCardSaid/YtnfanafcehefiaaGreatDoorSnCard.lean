/- The statement ShellNoneCardSaid is proved: bazaarlaw32.ShellNone returns true, in every memory in which the listed tables of the library read as the program text lays them; no condition on the input (there is none). -/
import Derived.Test.YtnfanafcehefiaaGreatDoorCards
import Derived.Test.YtnfanafcehefiaaGreatDoorSnTie
import Derived.Test.YtnfanafcehefiaaGreatDoorSnLift
import Derived.Test.YtnfanafcehefiaaGreatDoorSnFact
import Derived.Test.YtnfanafcehefiaaGreatDoorSnInst
import Derived.Test.YtnfanafcehefiaaGreatDoorSnGoes
import Derived.SevenTiedAt
set_option linter.unusedSimpArgs false
set_option linter.unusedVariables false
/-! The row and its tied card. -/
namespace Go.Proofs.YtnfanafcehefiaaGreatDoor
open Go
set_option maxRecDepth 100000

theorem shellNone_holds : Rows.ShellNoneSaid :=
  OpenClaim.holds_of_wide 3 Tryz.f3 rfl rfl rfl rfl rfl rfl rfl ⟨rfl, rfl, rfl, rfl, rfl⟩ rfl rfl rfl rfl rfl factName Tryz.func3 facts rowInst rowWrap
    (fun os started H enc _ => lifted os started H enc)

theorem shellNone_card : Rows.ShellNoneCardSaid :=
  Claim7.holds_tied_plain_at .later [] _ _ _ _ shellNone_holds (fun _ h => by cases h) rowText (fun _ h => by cases h) own_row_tie rfl ⟨rfl, rfl⟩ rowMain rfl
    (fun f fn hf hfn => by
      obtain rfl : f = 3 := Option.some.inj (factName.symm.trans hf) |>.symm
      obtain rfl : fn = Tryz.f3 := (Option.some.inj (Tryz.func3.symm.trans hfn)).symm
      exact ⟨rowLooks, fun j t ht => by
        rw [Tryz.params3] at ht
        simp at ht⟩)
    row_goes
end Go.Proofs.YtnfanafcehefiaaGreatDoor
