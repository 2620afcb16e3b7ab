/- A part of the claim: see the text that holds the theorem. -/
import Derived.Test.YtnfanafcehefiaaGreatDoorSnFactA
import Derived.SevenTiedAt
set_option linter.unusedSimpArgs false
set_option linter.unusedVariables false
/-! No goroutine is started. -/
namespace Go.Proofs.YtnfanafcehefiaaGreatDoor
open Go
set_option maxRecDepth 100000

/-- Nothing in the translation starts a goroutine; so nothing on the road does. -/
theorem goes_of_none {P : Program} (h : P.funcs.any Func.goes = false) (f : FuncId) : P.goes f = false := by
  unfold Program.goes
  rw [h, Bool.and_false, Bool.or_false, List.any_eq_false]
  intro g _
  cases hg : P.funcs[g]? with
  | none => simp
  | some fn =>
    have := (Array.any_eq_false.1 h) g (Array.getElem?_eq_some_iff.1 hg).1
    rw [(Array.getElem?_eq_some_iff.1 hg).2] at this
    simpa using this

theorem none_goes : Tryz.prog.funcs.any Func.goes = false := by kernel_rfl

theorem row_goes : false = Rows.shellNoneRow.goesBy Tryz.pinned.checked.prog := by
  show false = (Tryz.prog.goesFrom "bazaar/bazaarlaw32.ShellNone" || false)
  unfold Program.goesFrom
  rw [factName, Option.any_some, goes_of_none none_goes]
  rfl

end Go.Proofs.YtnfanafcehefiaaGreatDoor
