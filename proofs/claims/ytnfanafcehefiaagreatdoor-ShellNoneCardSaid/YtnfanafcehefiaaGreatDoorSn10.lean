/- A part of the claim: see the text that holds the theorem. -/
import Derived.Test.YtnfanafcehefiaaGreatDoorSn9
set_option linter.unusedSimpArgs false
set_option linter.unusedVariables false
namespace Go.Proofs
open Go Go.Bz
set_option maxRecDepth 100000
set_option maxHeartbeats 1000000

theorem line_nil_ct (l : Value) (w : World) : Ct Tryz.prog 4 #[.pointer none, l] w fun v w' => v = .tuple #[.slice none 0 0, i64 1] ∧ Hp w w' [] := by
  refine Ct.of_code mx Tryz.func4 rfl (by kernel_rfl) rfl (by kernel_rfl) ?_
  exact ⟨rfl, Hp.refl w⟩

theorem line_long_ct (s : Nat) (o : Option Addr) (w : World) : Ct Tryz.prog 4 #[ptr s, .slice o 65537 65537] w fun v w' => v = .tuple #[.slice none 0 0, i64 3] ∧ Hp w w' [] := by
  refine Ct.of_code mx Tryz.func4 rfl (by kernel_rfl) rfl (by kernel_rfl) ?_
  exact ⟨rfl, Hp.refl w⟩

theorem run_long_ct (o : Option Addr) (w : World) : Ct Tryz.prog 5 #[.slice o 65537 65537] w fun v w' => v = .tuple #[.slice none 0 0, i64 3] ∧ Hp w w' [] := by
  refine Ct.of_code mx Tryz.func5 rfl (by kernel_rfl) rfl (by kernel_rfl) ?_
  exact ⟨rfl, Hp.refl w⟩

/-- A line without a word, or a remark. -/
theorem line_said_nothing_ct (s b o cap : Nat) (l : List UInt8) (cs : List Value) (t : TypeId) (f : Nat × Nat) (w : World) (hb : w.heap[b]? = some (.cells ⟨cs⟩ t f)) (hoc : o + l.length ≤ cs.length)
    (hl : (cs.drop o).take l.length = u8s l) (hlen : l.length ≤ 65536) (ha : ∀ c ∈ l, c.toNat < 128) (hf : fields l = [] ∨ ∃ r ws, fields l = (35 :: r) :: ws) :
    Ct Tryz.prog 4 #[ptr s, .slice (some ⟨b, o, none⟩) l.length cap] w fun v w' => v = .tuple #[.slice none 0 0, i64 0] ∧ Hp w w' [] := by
  refine Ct.of_code mx Tryz.func4 rfl (by kernel_rfl) rfl (by kernel_rfl) ?_
  have H := (Hp.refl w).know hb (by simp)
  refine IFB.mk (fun h => ?_) (fun _ => ?_)
  · simp at h; omega
  refine CNV.toStr (l := l) rfl rfl rfl H 0 (o := o) rfl rfl hoc hl ?_
  refine CALLW.ct (fields_ct l hlen ha _) fun v w1 hv => ?_
  obtain ⟨wb, rfl, H1, hwb⟩ := hv
  have H := H.more H1 (by simp [hwb])
  have hwb' : w.heap.size ≤ wb := hwb
  rcases hf with hf | ⟨r, ws, hf⟩
  · rw [hf] at H ⊢
    exact ⟨rfl, Hp.forget (Hp.drop (M := [_]) H (by simp [hwb'])) hb⟩
  · rw [hf] at H ⊢
    refine IXA.slice (n := 0) (sz := 1) rfl rfl ⟨Int.le_refl _, by simp⟩ ?_
    refine LD.hp H 0 (off := 0) (v := str (35 :: r)) rfl rfl rfl ?_
    refine IX.str (n := 0) (c := 35) rfl (by decide) rfl ?_
    exact ⟨rfl, Hp.forget (Hp.drop (M := [_]) H (by simp [hwb'])) hb⟩

end Go.Proofs
