/- A part of the claim: see the text that holds the theorem. -/
import Derived.Test.YtnfanafcehefiaaGreatDoorSn4b2
set_option linter.unusedSimpArgs false
set_option linter.unusedVariables false
namespace Go.Proofs
open Go Go.Bz
set_option maxRecDepth 100000
set_option maxHeartbeats 1000000

theorem all_ct (s : Nat) (w : World) : Ct Tryz.prog 12 #[ptr s] w fun v w' => ∃ m es clock kvs B, v = .map (some m) ∧ Hp w w' ((m, .map ⟨es⟩ clock) :: B) ∧ MapIs strEnc es clock kvs ∧ Tbl s B kvs true true true ∧ w.heap.size ≤ m ∧ ∀ p ∈ B, w.heap.size ≤ p.1 := by
  refine Ct.of_code mx Tryz.func12 rfl (by kernel_rfl) rfl (by kernel_rfl) ?_
  refine AL.hp (Hp.refl w) fun m w1 hm0 H => ?_
  have hm := MapIs.nil strEnc
  have T := Tbl.nil s
  refine CALLW.ct (ahead_weak s 16 #[ptr s] #[] _) fun v w2 H2 => ?_
  have H := H.pure H2
  refine MUP.hp H 0 strEnc_ok rfl rfl rfl hm (k := [108, 101, 97, 115, 116]) fun w1 es1 clock1 H hm => ?_
  have T := T.other (k := [108, 101, 97, 115, 116]) (v := v) (by decide) (by decide) (by decide) (by decide)
  refine CALLW.ct (ahead_ct s 17 #[ptr s] #[] _) fun v w2 hv => ?_
  obtain ⟨c1, c2, rfl, H2, hc1, hc2⟩ := hv
  have hc1' : w.heap.size ≤ c1 := Nat.le_trans H.le hc1
  have hc2' : w.heap.size ≤ c2 := Nat.le_trans H.le hc2
  have H := H.more H2 (by simp [hc1, hc2])
  refine MUP.hp H 2 strEnc_ok rfl rfl rfl hm (k := [98, 101, 103, 105, 110]) fun w1 es1 clock1 H hm => ?_
  have T := (T.more (B' := [(c2, .cells ⟨[fnv 17 #[ptr s] #[]]⟩ 34 (0, 0)), (c1, .cells ⟨[ptr s]⟩ 22 (0, 0))]) (by simp)).put (k := kBegin) (v := fnv 43 #[] #[ptr c1, ptr c2]) (by decide) true false false
    (fun _ => ⟨c1, c2, rfl, by simp, by simp⟩) (fun e => by cases e) (fun e => by cases e)
  have H := H.perm (M := [(m, _), (c2, _), (c1, _)]) ((List.Perm.cons _ (List.Perm.swap ..)).trans (List.Perm.swap ..))
  refine CALLW.ct (during_weak s 19 #[ptr s] #[] _) fun v w2 H2 => ?_
  have H := H.pure H2
  refine MUP.hp H 0 strEnc_ok rfl rfl rfl hm (k := [98, 121, 116, 101, 115]) fun w1 es1 clock1 H hm => ?_
  have T := T.other (k := [98, 121, 116, 101, 115]) (v := v) (by decide) (by decide) (by decide) (by decide)
  refine CALLW.ct (during_weak s 20 #[ptr s] #[] _) fun v w2 H2 => ?_
  have H := H.pure H2
  refine MUP.hp H 0 strEnc_ok rfl rfl rfl hm (k := [114, 101, 99, 111, 118, 101, 114]) fun w1 es1 clock1 H hm => ?_
  have T := T.other (k := [114, 101, 99, 111, 118, 101, 114]) (v := v) (by decide) (by decide) (by decide) (by decide)
  refine CALLW.ct (during_weak s 21 #[ptr s] #[] _) fun v w2 H2 => ?_
  have H := H.pure H2
  refine MUP.hp H 0 strEnc_ok rfl rfl rfl hm (k := [97, 115, 107]) fun w1 es1 clock1 H hm => ?_
  have T := T.other (k := [97, 115, 107]) (v := v) (by decide) (by decide) (by decide) (by decide)
  refine CALLW.ct (during_weak s 22 #[ptr s] #[] _) fun v w2 H2 => ?_
  have H := H.pure H2
  refine MUP.hp H 0 strEnc_ok rfl rfl rfl hm (k := [99, 108, 111, 99, 107]) fun w1 es1 clock1 H hm => ?_
  have T := T.other (k := [99, 108, 111, 99, 107]) (v := v) (by decide) (by decide) (by decide) (by decide)
  refine CALLW.ct (during_weak s 23 #[ptr s] #[] _) fun v w2 H2 => ?_
  have H := H.pure H2
  refine MUP.hp H 0 strEnc_ok rfl rfl rfl hm (k := [97, 99, 99, 111, 117, 110, 116]) fun w1 es1 clock1 H hm => ?_
  have T := T.other (k := [97, 99, 99, 111, 117, 110, 116]) (v := v) (by decide) (by decide) (by decide) (by decide)
  refine CALLW.ct (during_weak s 24 #[ptr s] #[] _) fun v w2 H2 => ?_
  have H := H.pure H2
  refine MUP.hp H 0 strEnc_ok rfl rfl rfl hm (k := [105, 116, 101, 109, 115]) fun w1 es1 clock1 H hm => ?_
  have T := T.other (k := [105, 116, 101, 109, 115]) (v := v) (by decide) (by decide) (by decide) (by decide)
  refine CALLW.ct (during_weak s 25 #[ptr s] #[] _) fun v w2 H2 => ?_
  have H := H.pure H2
  refine MUP.hp H 0 strEnc_ok rfl rfl rfl hm (k := [105, 116, 101, 109]) fun w1 es1 clock1 H hm => ?_
  have T := T.other (k := [105, 116, 101, 109]) (v := v) (by decide) (by decide) (by decide) (by decide)
  refine CALLW.ct (during_weak s 26 #[ptr s] #[] _) fun v w2 H2 => ?_
  have H := H.pure H2
  refine MUP.hp H 0 strEnc_ok rfl rfl rfl hm (k := [99, 111, 110, 116, 114, 97, 99, 116]) fun w1 es1 clock1 H hm => ?_
  have T := T.other (k := [99, 111, 110, 116, 114, 97, 99, 116]) (v := v) (by decide) (by decide) (by decide) (by decide)
  refine CALLW.ct (during_weak s 27 #[ptr s] #[] _) fun v w2 H2 => ?_
  have H := H.pure H2
  refine MUP.hp H 0 strEnc_ok rfl rfl rfl hm (k := [99, 111, 110, 116, 114, 97, 99, 116, 115]) fun w1 es1 clock1 H hm => ?_
  have T := T.other (k := [99, 111, 110, 116, 114, 97, 99, 116, 115]) (v := v) (by decide) (by decide) (by decide) (by decide)
  refine CALLW.ct (during_weak s 28 #[ptr s] #[] _) fun v w2 H2 => ?_
  have H := H.pure H2
  refine MUP.hp H 0 strEnc_ok rfl rfl rfl hm (k := [98, 97, 99, 107, 108, 111, 103]) fun w1 es1 clock1 H hm => ?_
  have T := T.other (k := [98, 97, 99, 107, 108, 111, 103]) (v := v) (by decide) (by decide) (by decide) (by decide)
  refine CALLW.ct (during_weak s 29 #[ptr s] #[] _) fun v w2 H2 => ?_
  have H := H.pure H2
  refine MUP.hp H 0 strEnc_ok rfl rfl rfl hm (k := [115, 117, 112, 112, 108, 121]) fun w1 es1 clock1 H hm => ?_
  have T := T.other (k := [115, 117, 112, 112, 108, 121]) (v := v) (by decide) (by decide) (by decide) (by decide)
  refine CALLW.ct (during_weak s 30 #[ptr s] #[] _) fun v w2 H2 => ?_
  have H := H.pure H2
  refine MUP.hp H 0 strEnc_ok rfl rfl rfl hm (k := [115, 101, 115, 115, 105, 111, 110]) fun w1 es1 clock1 H hm => ?_
  have T := T.other (k := [115, 101, 115, 115, 105, 111, 110]) (v := v) (by decide) (by decide) (by decide) (by decide)
  refine CALLW.ct (during_weak s 31 #[ptr s] #[] _) fun v w2 H2 => ?_
  have H := H.pure H2
  refine MUP.hp H 0 strEnc_ok rfl rfl rfl hm (k := [119, 97, 105, 116, 105, 110, 103]) fun w1 es1 clock1 H hm => ?_
  have T := T.other (k := [119, 97, 105, 116, 105, 110, 103]) (v := v) (by decide) (by decide) (by decide) (by decide)
  refine CALLW.ct (during_weak s 32 #[ptr s] #[] _) fun v w2 H2 => ?_
  have H := H.pure H2
  refine MUP.hp H 0 strEnc_ok rfl rfl rfl hm (k := [117, 112]) fun w1 es1 clock1 H hm => ?_
  have T := T.other (k := [117, 112]) (v := v) (by decide) (by decide) (by decide) (by decide)
  refine CALLW.ct (during_weak s 33 #[ptr s] #[] _) fun v w2 H2 => ?_
  have H := H.pure H2
  refine MUP.hp H 0 strEnc_ok rfl rfl rfl hm (k := [111, 118, 101, 114]) fun w1 es1 clock1 H hm => ?_
  have T := T.other (k := [111, 118, 101, 114]) (v := v) (by decide) (by decide) (by decide) (by decide)
  refine codeE_at [(0, ptr s), (3, ptr s), (4, .map (some m))] ⟨rfl, rfl, rfl, trivial⟩ fun e' => ?_
  exact all_mid s m _ _ _ _ w _ hm0 H hm T (by simp [hc1', hc2']) e'

end Go.Proofs
