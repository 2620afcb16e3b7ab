/- A part of the claim: see the text that holds the theorem. -/
import Derived.Test.YtnfanafcehefiaaGreatDoorSn6
import Derived.Test.YtnfanafcehefiaaGreatDoorBzTl
set_option linter.unusedSimpArgs false
set_option linter.unusedVariables false
namespace Go.Proofs
open Go Go.Bz
set_option maxRecDepth 100000
set_option maxHeartbeats 1000000

theorem hasPrefix_ct (w : World) : Ct Tryz.prog 149 #[str [57, 57], str [45]] w fun v w' => v = .bool false ∧ Hp w w' [] := by
  refine Ct.of_code mx Tryz.func149 rfl (by kernel_rfl) rfl (by kernel_rfl) ?_
  refine SLC.str rfl (a := 0) (b := 1) ⟨rfl, ⟨_, rfl⟩, rfl, by decide, by decide, Nat.le_refl _⟩ ?_
  refine ⟨?_, Hp.refl w⟩
  exact congrArg Value.bool ((str_beq [57] [45]).trans (by decide))

theorem trim_ct (w : World) : Ct Tryz.prog 82 #[str [57, 57], str [45]] w fun v w' => v = str [57, 57] ∧ Hp w w' [] := by
  refine Ct.of_code mx Tryz.func82 rfl (by kernel_rfl) rfl (by kernel_rfl) ?_
  refine CALLW.ct (R := fun v w' => v = str [57, 57] ∧ Hp w w' []) ?_ fun v w1 hv => ?_
  · refine Ct.of_code mx Tryz.func128 rfl (by kernel_rfl) rfl (by kernel_rfl) ?_
    refine CALLW.ct (hasPrefix_ct _) fun v w1 hv => ?_
    obtain ⟨rfl, H⟩ := hv
    exact ⟨rfl, H⟩
  obtain ⟨rfl, H⟩ := hv
  exact ⟨rfl, H⟩

theorem whole_ct (w : World) : Ct Tryz.prog 48 #[str [57, 57]] w fun v w' => v = .tuple #[i64 99, .bool true] ∧ Hp w w' [] := by
  refine Ct.of_code mx Tryz.func48 rfl (by kernel_rfl) rfl (by kernel_rfl) ?_
  refine CALLW.ct (trim_ct _) fun v w1 hv => ?_
  obtain ⟨rfl, H⟩ := hv
  refine IX.str (n := 0) (c := 57) rfl (by decide) rfl ?_
  refine LOOP.rule (fun x : Nat × Int => [(29, i64 x.1), (5, i64 x.2)]) (fun x w' => w' = w1 ∧ (x = (0, 0) ∨ x = (1, 9) ∨ x = (2, 99))) (fun x => 2 - x.1) (0, 0) ⟨rfl, rfl, trivial⟩ ⟨rfl, .inl rfl⟩ ?_
  rintro x w2 h ⟨rfl, rfl | rfl | rfl⟩
  · refine IX.str (n := 0) (c := 57) rfl (by decide) rfl ?_
    refine IX.str (n := 0) (c := 57) rfl (by decide) rfl ?_
    refine IX.str (n := 0) (c := 57) rfl (by decide) rfl ?_
    refine CNV.int (k' := .i64) rfl rfl ?_
    exact ⟨rfl, (1, 9), ⟨rfl, rfl, trivial⟩, ⟨rfl, .inr (.inl rfl)⟩, by decide⟩
  · refine IX.str (n := 1) (c := 57) rfl (by decide) rfl ?_
    refine IX.str (n := 1) (c := 57) rfl (by decide) rfl ?_
    refine IX.str (n := 1) (c := 57) rfl (by decide) rfl ?_
    refine CNV.int (k' := .i64) rfl rfl ?_
    exact ⟨rfl, (2, 99), ⟨rfl, rfl, trivial⟩, ⟨rfl, .inr (.inr rfl)⟩, by decide⟩
  · exact ⟨rfl, H⟩

end Go.Proofs
