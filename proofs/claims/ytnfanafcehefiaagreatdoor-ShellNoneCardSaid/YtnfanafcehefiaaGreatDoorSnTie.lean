/- A part of the claim: see the text that holds the theorem. -/
import Derived.Test.YtnfanafcehefiaaGreatDoorRows
import Derived.LaidByTextLater
import Derived.SevenTiedAt
import Derived.LaidOnce
set_option linter.unusedSimpArgs false
set_option linter.unusedVariables false
/-! THE ROW's TIE, by the one run of the door; the list is the program's whole list, so nothing is cut out of it. -/
namespace Go.Proofs.YtnfanafcehefiaaGreatDoor
open Go
set_option maxRecDepth 100000
noncomputable abbrev ownList : List (String × DataW Unit) := [("math/bits.deBruijn32tab", Rows.laid_math_bits_deBruijn32tab), ("math/bits.deBruijn64tab", Rows.laid_math_bits_deBruijn64tab), ("internal/strconv.uint64pow10", Rows.laid_internal_strconv_uint64pow10), ("unicode/utf8.acceptRanges", Rows.laid_unicode_utf8_acceptRanges)]
theorem ownWord : Tryz.prog.worded (varsWordLater true) = true := by kernel_rfl
theorem ownWord' : Tryz.prog.worded (varsWordLater !true) = false := by kernel_rfl
theorem ownRoot : Tryz.prog.worded rootWordLater = true := by kernel_rfl
theorem ownKinds : ownList.map (fun x => Tryz.prog.kindOfLater x.1) = [LaidKind.data, .data, .data, .data].map some := by kernel_rfl
theorem ownDoor : (Tryz.prog.funcNamed "gosem.cut.vars").isSome = true := by kernel_rfl
theorem ownNamed : varsNamedLaterB Tryz.prog (varsId Tryz.prog) ownList = true := by kernel_rfl
theorem ownRun (os : Os) (tape : Tape) : doorLeaves Tryz.prog 34 8 65 ownList os tape = some (ownList.filter fun x => x.2.handleName?.isNone, (funcsListed ownList).map (·.2.funcsOut)) := by kernel_rfl
theorem ownTie : Tryz.prog.laidByTextLater ownList [.data, .data, .data, .data] true :=
  Program.laidByTextLater_by_one 34 8 65 ownWord ownWord' ownRoot ownKinds ownDoor ownNamed ownRun
theorem ownPin : Tryz.pinned.checked.prog.pinnedFits "unicode/utf8.first" = true := by kernel_rfl
theorem ownUnsafe : Tryz.pinned.checked.prog.headLifts.contains "ownunsafe" = false := by kernel_rfl
theorem ownFits : Tryz.pinned.checked.prog.listedFits [("math/bits.deBruijn32tab", Rows.laid_math_bits_deBruijn32tab), ("math/bits.deBruijn64tab", Rows.laid_math_bits_deBruijn64tab), ("internal/strconv.uint64pow10", Rows.laid_internal_strconv_uint64pow10), ("unicode/utf8.acceptRanges", Rows.laid_unicode_utf8_acceptRanges), ("unicode/utf8.first", Rows.laid_unicode_utf8_first)] = true := by
  unfold Program.listedFits
  rw [ownUnsafe]
  kernel_rfl
theorem own_row_tie : Rows.shellNoneRow.laidByTextAt .later Tryz.pinned [.data, .data, .data, .data, .pinned] true :=
  OpenClaim.laidByTextAt_pinned rfl rfl ownTie rfl rfl rfl rfl (fun y hy _e => by
    simp only [Rows.shellNoneRow, List.zip_cons_cons, List.zip_nil_right, List.mem_cons, List.mem_nil_iff, or_false] at hy
    rcases hy with rfl | rfl | rfl | rfl | rfl
    · cases _e
    · cases _e
    · cases _e
    · cases _e
    · exact ⟨ownPin, by kernel_rfl⟩) ownFits
end Go.Proofs.YtnfanafcehefiaaGreatDoor
