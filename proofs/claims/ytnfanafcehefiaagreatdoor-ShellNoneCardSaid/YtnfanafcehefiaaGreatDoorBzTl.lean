/- A part of the claim: see the text that holds the theorem. -/
import Derived.Test.YtnfanafcehefiaaGreatDoorBzExt
set_option linter.unusedSimpArgs false
set_option linter.unusedVariables false
/-! The bytes of a string, as a list. -/
namespace Go.Bz

theorem toList_loop (l : List UInt8) : ∀ (n i : Nat) (r : List UInt8), l.length - i = n → ByteArray.toList.loop ⟨⟨l⟩⟩ i r = r.reverse ++ l.drop i := by
  intro n
  induction n with
  | zero =>
    intro i r h
    unfold ByteArray.toList.loop
    have hn : ¬ i < (⟨⟨l⟩⟩ : ByteArray).size := by show ¬ i < l.length; omega
    rw [if_neg hn, List.drop_eq_nil_of_le (by omega), List.append_nil]
  | succ n ih =>
    intro i r h
    have hlt : i < l.length := by omega
    unfold ByteArray.toList.loop
    rw [if_pos (show i < (⟨⟨l⟩⟩ : ByteArray).size from hlt), ih _ _ (by omega), List.reverse_cons, List.append_assoc, List.singleton_append, List.drop_eq_getElem_cons hlt]
    congr 2
    show (⟨l⟩ : Array UInt8)[i]! = l[i]
    rw [getElem!_pos _ _ (by simpa using hlt)]
    simp

theorem toList_mk (l : List UInt8) : (⟨⟨l⟩⟩ : ByteArray).toList = l := by
  unfold ByteArray.toList
  rw [toList_loop l _ 0 [] rfl]; rfl

theorem str_beq (a b : List UInt8) : ((⟨⟨a⟩⟩ : ByteArray).toList == (⟨⟨b⟩⟩ : ByteArray).toList) = decide (a = b) := by
  rw [toList_mk, toList_mk]
  by_cases h : a = b
  · simp [h]
  · simp [h]

end Go.Bz
