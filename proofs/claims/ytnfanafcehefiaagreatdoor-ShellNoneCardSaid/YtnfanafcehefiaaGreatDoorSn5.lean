/- A part of the claim: see the text that holds the theorem. -/
import Derived.Test.YtnfanafcehefiaaGreatDoorSn4c
set_option linter.unusedSimpArgs false
set_option linter.unusedVariables false
namespace Go.Proofs
open Go Go.Bz
set_option maxRecDepth 100000
set_option maxHeartbeats 1000000

/-- The setup's cells, with so many seats. -/
abbrev setCells99 (n : Int) : List Value := [i64 n, i64 4, i64 8, i64 2, i64 8, i64 32, i64 1000, i64 4, i64 8, i64 2, i64 7, i64 118]
abbrev shellCells (n : Int) (m : Value) : List Value := setCells99 n ++ [.pointer none, m]

theorem new_ct (w : World) : Ct Tryz.prog 6 #[] w fun v w' => ∃ s m es clock kvs B, v = ptr s ∧ Hp w w' ((s, .cells ⟨shellCells 4 (.map (some m))⟩ 43 (0, 0)) :: (m, .map ⟨es⟩ clock) :: B) ∧ MapIs strEnc es clock kvs ∧
    Tbl s B kvs true true true ∧ w.heap.size ≤ s ∧ w.heap.size ≤ m ∧ ∀ p ∈ B, w.heap.size ≤ p.1 := by
  refine Ct.of_code mx Tryz.func6 rfl (by kernel_rfl) rfl (by kernel_rfl) ?_
  refine AL.hp (Hp.refl w) fun s w1 hs H => ?_
  have H : Hp w w1 [(s, .cells ⟨shellCells 4 (.map none)⟩ 43 (0, 0))] := H
  refine CALLW.ct (all_ct s _) fun v w2 hv => ?_
  obtain ⟨m, es, clock, kvs, B, rfl, H2, hm, T, hm0, hB⟩ := hv
  have hm1 : w.heap.size ≤ m := Nat.le_trans H.le hm0
  have hB1 : ∀ p ∈ B, w.heap.size ≤ p.1 := fun p hp => Nat.le_trans H.le (hB p hp)
  have H := H.more H2 (by
    intro p hp
    rcases List.mem_cons.1 hp with rfl | hp
    · exact hm0
    · exact hB p hp)
  have H := H.perm (M := (s, .cells ⟨shellCells 4 (.map none)⟩ 43 (0, 0)) :: (m, .map ⟨es⟩ clock) :: B) List.perm_append_comm
  refine ⟨rfl, ST.hp H 0 (off := 13) (v := .map (some m)) rfl rfl (by decide) rfl rfl fun w3 H => ?_⟩
  exact ⟨s, m, es, clock, kvs, B, rfl, H, hm, T, hs, hm1, hB1⟩

theorem bucket_ct (w : World) : Ct Tryz.prog 246 #[i64 8, i64 1, i64 32] w fun v w' => ∃ b, v = .tuple #[ptr b, i64 0] ∧ Hp w w' [] := by
  refine Ct.of_code mx Tryz.func246 rfl (by kernel_rfl) rfl (by kernel_rfl) ?_
  refine AL.hp (Hp.refl w) fun b w1 hb H => ?_
  exact ⟨b, rfl, Hp.drop (M := [_]) H (by simp [hb])⟩

theorem seats_ct (w : World) : Ct Tryz.prog 171 #[i64 99, i64 8, i64 32, i64 1000] w fun v w' => v = .tuple #[.pointer none, i64 2] ∧ Hp w w' [] := by
  refine Ct.of_code mx Tryz.func171 rfl (by kernel_rfl) rfl (by kernel_rfl) ?_
  refine CALLW.ct (bucket_ct _) fun v w1 hv => ?_
  obtain ⟨b, rfl, H⟩ := hv
  exact ⟨rfl, H⟩

end Go.Proofs
