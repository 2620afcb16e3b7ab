/- A part of the claim: see the text that holds the theorem. -/
import Derived.Test.YtnfanafcehefiaaGreatDoorSn16
import Derived.Test.YtnfanafcehefiaaGreatDoorRows
import Derived.Test.YtnfanafcehefiaaGreatDoorBzRow
import Derived.ProofKit
import Derived.OpenShut
import Derived.LaidMore
import Derived.Lay
import Derived.SevenTiedAt
import Derived.Stop.Joined
import Derived.Stop.LaidErr
import Derived.Lib.LaidTab
set_option linter.unusedSimpArgs false
set_option linter.unusedVariables false
/-! The row's contract, lifted. -/
namespace Go.Proofs.YtnfanafcehefiaaGreatDoor
open Go Go.Bz Go.ChangeShapes Go.WideShapes Go.ChangeAt Go.RowKit
set_option maxRecDepth 100000

theorem own : ownKnob Tryz.prog.godebug = none := by kernel_rfl
theorem gPow : Tryz.prog.globalNamed "internal/strconv.uint64pow10" = some 1 := by kernel_rfl
theorem gPowType : (Tryz.prog.globals[1]?).map (·.type) = some 261 := by kernel_rfl
theorem cellsPow : Tryz.prog.cellsOf 261 = 20 := by kernel_rfl
theorem cellsU64 : Tryz.prog.cellsOf 78 = 1 := by kernel_rfl

theorem powers {W : World} (h : laidMetH Tryz.prog Rows.shellNoneRow.laid W) : W.cell? ⟨1, 2, none⟩ = some (.int .u64 100) := by
  rw [MakeChecks.laidMetH_plain _ _ _ (by kernel_rfl)] at h
  have h3 := h.tail.tail
  exact (Lib.tabIs_of_head (zs := [1, 10, 100, 1000, 10000, 100000, 1000000, 10000000, 100000000, 1000000000, 10000000000, 100000000000, 1000000000000, 10000000000000, 100000000000000, 1000000000000000, 10000000000000000, 100000000000000000, 1000000000000000000, 10000000000000000000])
    gPow gPowType Tryz.underlying261 Tryz.underlying78 cellsU64 cellsPow h3).cell gPow 2 (by decide)

theorem table {W : World} (h : laidMetH Tryz.prog Rows.shellNoneRow.laid W) : ∃ gl gf, Gl W gl gf := by
  have hc := powers h
  unfold World.cell? at hc
  cases hb : W.heap[1]? with
  | none => simp [hb] at hc
  | some o =>
    cases o with
    | cells c t f =>
      simp only [hb] at hc
      exact ⟨c.toList, (t, f), by simpa using hc, hb⟩
    | _ => simp [hb] at hc

theorem lifted (os : Os) (started : os.Started) (H : Type) (enc : TypeId × Value → H) :
    ReturnsInHanded {} Tryz.checked os 3 .any (fun w args => (Rows.shellNoneSpec.pre enc Tryz.prog Tryz.f3 Rows.shellNoneRow.domain false w args ∧ laidMetH Tryz.prog Rows.shellNoneRow.laid w) ∧ sizedMet enc Tryz.prog Tryz.f3 (OpenSpec.ofChange Rows.shellNoneSpec) false w args)
      (Rows.shellNoneSpec.post enc Tryz.prog Tryz.f3 false true false false) := by
  refine returnsInHanded_of_change_and (C := Tryz.checked) (X := fun w _ => laidMetH Tryz.prog Rows.shellNoneRow.laid w) (fun _ _ _ hh h => h.of_heap hh) own started (by kernel_rfl) Tryz.func3
    (ChangeSpec.witness_shaped (enc := enc) (C := Tryz.checked) (os := os) (X := fun w _ => laidMetH Tryz.prog Rows.shellNoneRow.laid w) false (World.laidAll Tryz.prog os Rows.shellNoneRow.laid) #[] 8 (World.laidAll_os _ _ _)
      (World.shaped_of_ZipB (by kernel_rfl) (by kernel_rfl)) (by kernel_rfl) (by kernel_rfl) (by kernel_rfl)
      (by rw [MakeChecks.laidMetH_plain _ _ _ (by kernel_rfl)]; exact laidMet_laidAll _ (by kernel_rfl) (by kernel_rfl))) ?_
  intro W base args ds gs before hval0 hW _ _ hL _
  have hW' := hW
  obtain ⟨p, q, hA0, hV, rfl, _, _⟩ := hW
  have hA : DataW.TrodAll enc Tryz.prog W 0 (fun _ => true) true Tryz.f3.params.toList args.toList ds p := hA0
  rw [Tryz.params3] at hA
  obtain ⟨ha, rfl, rfl⟩ := trodAll_nil hA
  obtain rfl : args = #[] := by cases args; simp_all
  obtain ⟨rfl, rfl⟩ := trodVars_none hV
  obtain ⟨gl, gf, G⟩ := table hL
  refine (shellNone_ct gl gf W G).toCalls.mono fun e W' ⟨v, he, hv, hH⟩ => ?_
  subst he hv
  exact ⟨_, rfl, post_of_hp (pa := []) (pv := []) hW' (fun _ _ _ => trodAll_mk1 (shut_bool Tryz.underlying4 _)) (fun _ _ => by rw [Tryz.params3]; exact trodAll_mk0) (fun _ _ => rfl) rfl hH
    (ok_one (by kernel_rfl) rfl (okWide_bool_mk Tryz.underlying4 _))⟩

end Go.Proofs.YtnfanafcehefiaaGreatDoor
