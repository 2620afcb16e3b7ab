/- A part of the claim: see the text that holds the theorem. -/
import Derived.Test.YtnfanafcehefiaaGreatDoorBzTl
set_option linter.unusedSimpArgs false
set_option linter.unusedVariables false
/-! A code in two parts: what is carried over is named. -/
namespace Go.Bz

/-- The first parts of a code. -/
def pre : Nat → Code → Code
  | n + 1, .seq a b => .seq a (pre n b)
  | _, _ => .skip

theorem codeE_split {P : Program} {Q : Post} : ∀ (n : Nat) (c : Code) {e : Env} {ds : List Deferred} {w : World},
    codeE P (pre n c) (thenE (fun e ds w => codeE P (after n c) Q e ds w) Q) e ds w → codeE P c Q e ds w
  | 0, c, e, ds, w, h => by cases c <;> exact h
  | n + 1, c, e, ds, w, h => by
    cases c <;> try exact h
    case seq a b =>
      refine codeE_mono (c := a) (fun x e ds w h => ?_) h
      cases x with
      | normal => exact codeE_split n b h
      | exit i => exact h
      | ret => exact h

theorem cut_after {P : Program} {c : Code} {Q : Post} {e0 : Env} {ds : List Deferred} {w0 : World} (n : Nat) {σ : Type} (vals : σ → List (Nat × Value)) (I : σ → World → Prop)
    (first : codeE P (pre n c) (thenE (fun e' ds' w' => ds' = ds ∧ ∃ x, Holds e' (vals x) ∧ I x w') Q) e0 ds w0)
    (next : ∀ x w h, I x w → codeE P (after n c) Q (ovl (vals x) h) ds w) : codeE P c Q e0 ds w0 := by
  refine codeE_split n c (codeE_mono (fun z e' ds' w' h => ?_) first)
  cases z with
  | normal =>
    obtain ⟨rfl, x, hx, hI⟩ := h
    have := next x w' e' hI
    rwa [ovl_holds hx] at this
  | exit i => exact h
  | ret => exact h

end Go.Bz
