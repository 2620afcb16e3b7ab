/- A part of the claim: see the text that holds the theorem. -/
import Derived.Test.YtnfanafcehefiaaGreatDoorSn4a
set_option linter.unusedSimpArgs false
set_option linter.unusedVariables false
namespace Go.Proofs
open Go Go.Bz
set_option maxRecDepth 100000
set_option maxHeartbeats 1000000

theorem perm_mid (x y z : Blks) : (x ++ (y ++ z)).Perm (y ++ (x ++ z)) := by
  rw [← List.append_assoc, ← List.append_assoc]
  exact List.Perm.append_right _ List.perm_append_comm

theorem all_tail1 (s m : Nat) (es : List MapEntry) (clock : Nat) (kvs : List (List UInt8 × Value)) (B : Blks) (w w' : World) (hm0 : w.heap.size ≤ m) (H : Hp w w' ((m, .map ⟨es⟩ clock) :: B)) (hm : MapIs strEnc es clock kvs)
    (T : Tbl s B kvs true true false) (hB : ∀ p ∈ B, w.heap.size ≤ p.1) (e : Env) :
    codeE Tryz.prog (after 4 (Tryz.f12.body.getD .skip)) (finE Tryz.prog Tryz.f12.results.toList fun v w' => ∃ m es clock kvs B, v = .map (some m) ∧ Hp w w' ((m, .map ⟨es⟩ clock) :: B) ∧ MapIs strEnc es clock kvs ∧ Tbl s B kvs true true true ∧ w.heap.size ≤ m ∧ ∀ p ∈ B, w.heap.size ≤ p.1)
      (ovl [(0, ptr s), (3, ptr s), (4, .map (some m))] e) [] w' := by
  refine CALLW.ct (number_ct ⟨s, 8, none⟩ _) fun v w1 hv => ?_
  obtain ⟨b1, rfl, H1, hb1⟩ := hv
  have H := H.pure (Hp.drop (M := [_]) H1 (by simp [hb1]))
  refine CALLW.ct (either_ct s 68 24 #[] #[ptr b1] #[ptr s] #[] _) fun v w2 hv => ?_
  obtain ⟨d1, d2, d3, rfl, H2⟩ := hv
  have H := H.pure H2
  refine MUP.hp H 0 strEnc_ok rfl rfl rfl hm (k := [105, 116, 101, 109, 115]) fun w3 es3 clock3 H hm => ?_
  have T := T.other (k := [105, 116, 101, 109, 115]) (v := fnv 69 #[] #[ptr d1, ptr d2, ptr d3]) (by decide) (by decide) (by decide) (by decide)
  refine CALLW.ct (number_ct ⟨s, 9, none⟩ _) fun v w1 hv => ?_
  obtain ⟨b1, rfl, H1, hb1⟩ := hv
  have H := H.pure (Hp.drop (M := [_]) H1 (by simp [hb1]))
  refine CALLW.ct (either_ct s 68 27 #[] #[ptr b1] #[ptr s] #[] _) fun v w2 hv => ?_
  obtain ⟨d1, d2, d3, rfl, H2⟩ := hv
  have H := H.pure H2
  refine MUP.hp H 0 strEnc_ok rfl rfl rfl hm (k := [99, 111, 110, 116, 114, 97, 99, 116, 115]) fun w3 es3 clock3 H hm => ?_
  have T := T.other (k := [99, 111, 110, 116, 114, 97, 99, 116, 115]) (v := fnv 69 #[] #[ptr d1, ptr d2, ptr d3]) (by decide) (by decide) (by decide) (by decide)
  refine codeE_at [(0, ptr s), (4, .map (some m))] ⟨rfl, rfl, trivial⟩ fun e' => ?_
  exact all_tail2 s m _ _ _ B w _ hm0 H hm T hB e'

end Go.Proofs
