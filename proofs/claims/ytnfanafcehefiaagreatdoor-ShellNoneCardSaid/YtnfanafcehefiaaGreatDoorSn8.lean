/- A part of the claim: see the text that holds the theorem. -/
import Derived.Test.YtnfanafcehefiaaGreatDoorSn7
set_option linter.unusedSimpArgs false
set_option linter.unusedVariables false
namespace Go.Proofs
open Go Go.Bz
set_option maxRecDepth 100000
set_option maxHeartbeats 1000000

theorem number1_ct (s wb b3 : Nat) (cap : Nat) (m : Value) (wc : List Value) (hw1 : wc[1]? = some (str [57, 57])) (w : World) (hs : w.heap[s]? = some (.cells ⟨shellCells 4 m⟩ 43 (0, 0)))
    (hw : w.heap[wb]? = some (.cells ⟨wc⟩ 9 (0, 0))) (h3 : w.heap[b3]? = some (.cells ⟨[ptr s]⟩ 56 (0, 0))) :
    Ct Tryz.prog 68 #[.slice (some ⟨wb, 1, none⟩) 1 cap, ptr b3] w fun v w' => v = .tuple #[str [111, 107, 10], .bool true] ∧ Hp w w' [(s, .cells ⟨shellCells 99 m⟩ 43 (0, 0))] := by
  refine Ct.of_code mx Tryz.func68 rfl (by kernel_rfl) rfl (by kernel_rfl) ?_
  refine IXA.slice (n := 0) (sz := 1) rfl rfl (by decide) ?_
  refine LD.at (off := 1) (v := str [57, 57]) hw rfl hw1 ?_
  refine CALLW.ct (whole_ct _) fun v w1 hv => ?_
  obtain ⟨rfl, H1⟩ := hv
  have hne : s ≠ b3 := by
    rintro rfl
    rw [hs] at h3
    injection h3 with h3; injection h3 with h3; injection h3 with h3; injection h3 with _ h3; cases h3
  have H := (((Hp.refl w).know h3 (by simp)).know hs (by simp; exact fun h => hne h.symm)).pure H1
  refine LD.hp H 1 (off := 0) (v := ptr s) rfl rfl rfl ?_
  refine ⟨rfl, ST.hp H 0 (off := 0) (v := i64 99) rfl rfl (Nat.zero_lt_succ _) rfl rfl fun w2 H => ?_⟩
  have H : Hp w w2 [(s, .cells ⟨shellCells 99 m⟩ 43 (0, 0)), (b3, .cells ⟨[ptr s]⟩ 56 (0, 0))] := H
  exact ⟨rfl, Hp.forget (H.perm (List.Perm.swap ..)) h3⟩

/-- A command that is asked for ahead of a world. -/
theorem ahead1_ct (l : Value) (b1 b2 s g : Nat) (first cap : Array Value) (n : Int) (m : Value) (w : World) {R : Value → World → Prop}
    (h1 : w.heap[b1]? = some (.cells ⟨[ptr s]⟩ 22 (0, 0))) (h2 : w.heap[b2]? = some (.cells ⟨[fnv g first cap]⟩ 34 (0, 0))) (hs : w.heap[s]? = some (.cells ⟨shellCells n m⟩ 43 (0, 0)))
    (hg : Ct Tryz.prog g ⟨first.toList ++ [l] ++ cap.toList⟩ w fun v w' => ∃ a b, v = .tuple #[a, b] ∧ R v w') :
    Ct Tryz.prog 43 #[l, ptr b1, ptr b2] w R := by
  refine Ct.of_code mx Tryz.func43 rfl (by kernel_rfl) rfl (by kernel_rfl) ?_
  refine LD.at h1 rfl rfl ?_
  refine LD.at (off := 12) (v := .pointer none) hs rfl rfl ?_
  refine LD.at h2 rfl rfl ?_
  refine CALLW.ct hg fun v w1 hv => ?_
  obtain ⟨a, b, rfl, hR⟩ := hv
  exact hR

end Go.Proofs
