/- A part of the claim: see the text that holds the theorem. -/
import Derived.Test.YtnfanafcehefiaaGreatDoorCards
import Derived.JoinedOf
import Derived.KernelRfl
set_option linter.unusedSimpArgs false
set_option linter.unusedVariables false
/-! More closed facts: of the row's instance, of the card. -/
namespace Go.Proofs.YtnfanafcehefiaaGreatDoor
open Go
set_option maxRecDepth 100000
theorem rowInst : Tryz.f3.isInstance Tryz.prog Rows.shellNoneRow.origin Rows.shellNoneRow.targs := of_decide_eq_true (by kernel_rfl)
theorem rowWrap : Tryz.f3.isWrapper Tryz.prog Rows.shellNoneRow.wrapper Rows.shellNoneRow.mainSum := by
  unfold Func.isWrapper; first | (rw [if_pos (by decide +kernel)]; kernel_rfl) | (rw [if_neg (by decide +kernel)]; exact ⟨rfl, rfl⟩)
theorem rowText : Rows.shellNoneRow.wfByText (OpenSpec.ofChange Rows.shellNoneSpec) = true := by kernel_rfl
theorem rowMain : Tryz.prog.mainIs = some (true, "972d735c7178f2d01744cf376f0d80a3af3b0a73aa8720d0ab5508ad1f153a0c".toList) := by kernel_rfl
theorem rowLooks : true = Tryz.prog.looks [] := by kernel_rfl
end Go.Proofs.YtnfanafcehefiaaGreatDoor
