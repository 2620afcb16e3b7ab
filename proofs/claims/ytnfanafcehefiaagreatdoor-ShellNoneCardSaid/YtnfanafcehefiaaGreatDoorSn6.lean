/- A part of the claim: see the text that holds the theorem. -/
import Derived.Test.YtnfanafcehefiaaGreatDoorSn5
set_option linter.unusedSimpArgs false
set_option linter.unusedVariables false
namespace Go.Proofs
open Go Go.Bz
set_option maxRecDepth 100000
set_option maxHeartbeats 1000000

theorem sched_ct (w : World) : Ct Tryz.prog 119 #[.agg ⟨setCells99 99⟩] w fun v w' => v = .tuple #[.pointer none, i64 2] ∧ Hp w w' [] := by
  refine Ct.of_code mx Tryz.func119 rfl (by kernel_rfl) rfl (by kernel_rfl) ?_
  refine AL.hp (Hp.refl w) fun b w1 hb H => ?_
  have H : Hp w w1 [(b, .cells ⟨setCells99 99⟩ 39 (0, 0))] := H
  refine LD.hp H 0 (off := 1) (v := i64 4) rfl rfl rfl ?_
  refine LD.hp H 0 (off := 1) (v := i64 4) rfl rfl rfl ?_
  refine LD.hp H 0 (off := 0) (v := i64 99) rfl rfl rfl ?_
  refine LD.hp H 0 (off := 4) (v := i64 8) rfl rfl rfl ?_
  refine LD.hp H 0 (off := 5) (v := i64 32) rfl rfl rfl ?_
  refine LD.hp H 0 (off := 6) (v := i64 1000) rfl rfl rfl ?_
  refine CALLW.ct (seats_ct _) fun v w2 hv => ?_
  obtain ⟨rfl, H2⟩ := hv
  exact ⟨rfl, Hp.drop (M := [_]) (H.pure H2) (by simp [hb])⟩

theorem fits_ct (w : World) : Ct Tryz.prog 78 #[.agg ⟨setCells99 99⟩] w fun v w' => v = .tuple #[.pointer none, i64 0, i64 2] ∧ Hp w w' [] := by
  refine Ct.of_code mx Tryz.func78 rfl (by kernel_rfl) rfl (by kernel_rfl) ?_
  refine AL.hp (Hp.refl w) fun b w1 hb H => ?_
  have H : Hp w w1 [(b, .cells ⟨setCells99 99⟩ 39 (0, 0))] := H
  refine LDN.hp H 0 (off := 0) rfl rfl (setCells99 99) rfl rfl ?_
  refine CALLW.ct (sched_ct _) fun v w2 hv => ?_
  obtain ⟨rfl, H2⟩ := hv
  exact ⟨rfl, Hp.drop (M := [_]) (H.pure H2) (by simp [hb])⟩

theorem world_ct (w : World) : Ct Tryz.prog 46 #[.agg ⟨setCells99 99⟩] w fun v w' => v = .tuple #[.pointer none, i64 2] ∧ Hp w w' [] := by
  refine Ct.of_code mx Tryz.func46 rfl (by kernel_rfl) rfl (by kernel_rfl) ?_
  refine AL.hp (Hp.refl w) fun b w1 hb H => ?_
  have H : Hp w w1 [(b, .cells ⟨setCells99 99⟩ 39 (0, 0))] := H
  refine LDN.hp H 0 (off := 0) rfl rfl (setCells99 99) rfl rfl ?_
  refine CALLW.ct (fits_ct _) fun v w2 hv => ?_
  obtain ⟨rfl, H2⟩ := hv
  exact ⟨rfl, Hp.drop (M := [_]) (H.pure H2) (by simp [hb])⟩

/-- begin, where 99 seats are asked for: refused. -/
theorem begin_ct (s : Nat) (cap : Nat) (o : Option Addr) (m : Value) (w : World) (hs : w.heap[s]? = some (.cells ⟨shellCells 99 m⟩ 43 (0, 0))) :
    Ct Tryz.prog 17 #[ptr s, .slice o 0 cap] w fun v w' => v = .tuple #[str [101, 114, 114, 111, 114, 32, 50, 10], .bool true] ∧ Hp w w' [] := by
  refine Ct.of_code mx Tryz.func17 rfl (by kernel_rfl) rfl (by kernel_rfl) ?_
  have H := (Hp.refl w).know hs (by simp)
  refine LDN.hp H 0 (off := 0) rfl rfl (setCells99 99) rfl rfl ?_
  refine CALLW.ct (world_ct _) fun v w1 hv => ?_
  obtain ⟨rfl, H1⟩ := hv
  have H := H.pure H1
  refine CALLW.ct (refused2_ct _) fun v w2 hv => ?_
  obtain ⟨rfl, H2⟩ := hv
  exact ⟨rfl, Hp.forget (H.pure H2) hs⟩

end Go.Proofs
