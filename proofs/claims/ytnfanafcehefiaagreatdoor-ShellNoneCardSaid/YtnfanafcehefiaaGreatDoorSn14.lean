/- A part of the claim: see the text that holds the theorem. -/
import Derived.Test.YtnfanafcehefiaaGreatDoorSn13
set_option linter.unusedSimpArgs false
set_option linter.unusedVariables false
namespace Go.Proofs
open Go Go.Bz
set_option maxRecDepth 100000
set_option maxHeartbeats 1000000

theorem spans_zeros (n : Nat) : ∀ (pos : Nat) (s : Int), 0 ≤ s → spansGo (List.replicate n 0) pos s = ([], s) := by
  induction n with
  | zero => intro pos s _; rfl
  | succ n ih =>
    intro pos s h
    rw [List.replicate_succ, spansGo, if_neg (by decide), if_neg (by omega), ih _ _ h]

theorem fields_zeros (n : Nat) : fields (List.replicate (n + 1) 0) = [List.replicate (n + 1) 0] := by
  have h : spansGo (List.replicate (n + 1) 0) 0 (-1) = ([], 0) := by
    rw [List.replicate_succ, spansGo, if_neg (by decide), if_pos (by decide), spans_zeros n _ _ (by decide)]; rfl
  unfold fields spans
  rw [h]
  simp

/-- A shell lies there. -/
structure Sh (w : World) (s : Nat) (n : Int) (m clock : Nat) (es : List MapEntry) (kvs : List (List UInt8 × Value)) (B : Blks) : Prop where
  hs : w.heap[s]? = some (.cells ⟨shellCells n (.map (some m))⟩ 43 (0, 0))
  hm : w.heap[m]? = some (.map ⟨es⟩ clock)
  hB : ∀ p ∈ B, w.heap[p.1]? = some p.2
  ms : MapIs strEnc es clock kvs
  T : Tbl s B kvs true true true

/-- The table of small numbers lies there. -/
structure Gl (w : World) (gl : List Value) (gf : TypeId × Nat × Nat) : Prop where
  hc : gl[2]? = some (u64 100)
  hg : w.heap[1]? = some (.cells ⟨gl⟩ gf.1 gf.2)

theorem line_zeros_ct (k : Nat) (hk : k + 1 ≤ 65536) (hk' : 9 < k) (s b cap m clock : Nat) (n : Int) (cs : List Value) (t : TypeId) (f : Nat × Nat) (es : List MapEntry) (kvs : List (List UInt8 × Value)) (B : Blks)
    (gl : List Value) (gf : TypeId × Nat × Nat) (w : World) (hb : w.heap[b]? = some (.cells ⟨cs⟩ t f)) (hoc : k + 1 ≤ cs.length) (hl : (cs.drop 0).take (k + 1) = List.replicate (k + 1) (.int .u8 0))
    (S : Sh w s n m clock es kvs B) (G : Gl w gl gf) : Ct Tryz.prog 4 #[ptr s, .slice (some ⟨b, 0, none⟩) (k + 1) cap] w fun v w' => Said w w' v error320 := by
  have hlen : (List.replicate (k + 1) (0 : UInt8)).length = k + 1 := List.length_replicate
  have := line_unknown_ct s b 0 cap m clock n (List.replicate (k + 1) 0) (List.replicate k 0) 0 [] cs t f es kvs gl gf.2 G.hc w hb (by rw [hlen]; omega) (by rw [hlen, hl]; simp [u8s]) (by rw [hlen]; omega)
    (fun c hc => by rw [(List.mem_replicate.1 hc).2]; decide) (by rw [fields_zeros, List.replicate_succ]) (by decide) S.hs S.hm S.ms ?_ G.hg
  · rw [hlen] at this; exact this
  · cases ha : assoc kvs (0 :: List.replicate k 0) with
    | none => rfl
    | some v =>
      have := S.T.short _ _ ha
      simp at this; omega

/-- " round" ahead of a world. -/
theorem line_round_ct (s b cap m clock : Nat) (n : Int) (cs : List Value) (t : TypeId) (f : Nat × Nat) (es : List MapEntry) (kvs : List (List UInt8 × Value)) (B : Blks)
    (gl : List Value) (gf : TypeId × Nat × Nat) (w : World) (hb : w.heap[b]? = some (.cells ⟨cs⟩ t f)) (hoc : 6 ≤ cs.length) (hl : (cs.drop 0).take 6 = u8s [32, 114, 111, 117, 110, 100])
    (S : Sh w s n m clock es kvs B) (G : Gl w gl gf) : Ct Tryz.prog 4 #[ptr s, .slice (some ⟨b, 0, none⟩) 6 cap] w fun v w' => Said w w' v error320 := by
  obtain ⟨b1, b2, ha, h1⟩ := S.T.rnd rfl
  refine line_silent_ct s b 0 cap m clock n [32, 114, 111, 117, 110, 100] [111, 117, 110, 100] 114 [] cs t f es kvs gl gf.2 G.hc 47 #[] #[ptr b1, ptr b2] w G.hg hb (by simpa using hoc) hl (by decide) (by decide) (by decide) (by decide)
    S.hs S.hm S.ms ha fun wb w2 H hwb => ?_
  have hwb' : w.heap.size ≤ wb := hwb
  have H0 := Hp.drop (M := [_]) H (by simp [hwb'])
  have old : ∀ k o', w.heap[k]? = some o' → w2.heap[k]? = some o' := fun k o' h => by
    rw [H0.old k (heap_lt h) (by simp)]; exact h
  refine (during1_ct (behind wb 0) b1 b2 s (setCells99 n) rfl _ w2 (old _ _ (S.hB _ h1)) (old _ _ S.hs)).mono fun v w3 hv => ?_
  exact ⟨_, hv.1, H0.pure hv.2⟩

theorem line_seats_ct (s b o cap m clock : Nat) (cs : List Value) (t : TypeId) (f : Nat × Nat) (es : List MapEntry) (kvs : List (List UInt8 × Value)) (B : Blks)
    (w : World) (hb : w.heap[b]? = some (.cells ⟨cs⟩ t f)) (hoc : o + 8 ≤ cs.length) (hl : (cs.drop o).take 8 = u8s [115, 101, 97, 116, 115, 32, 57, 57])
    (S : Sh w s 4 m clock es kvs B) : Ct Tryz.prog 4 #[ptr s, .slice (some ⟨b, o, none⟩) 8 cap] w fun v w' => ∃ b' cap' n3, n3 = 3 ∧ v = .tuple #[.slice (some ⟨b', 0, none⟩) n3 cap', i64 0] ∧
      Hp w w' [(b', .cells ⟨u8s [111, 107, 10] ++ List.replicate (cap' - 3) (.int .u8 0)⟩ 5 (cap', cap' + 1)), (s, .cells ⟨shellCells 99 (.map (some m))⟩ 43 (0, 0))] ∧ w.heap.size ≤ b' ∧ 3 ≤ cap' := by
  obtain ⟨b1, b2, b3, ha, h1, h2, h3⟩ := S.T.sts rfl
  refine (?_ : Ct _ _ _ _ _).mono (R := fun v w' => ∃ b' cap', v = .tuple #[.slice (some ⟨b', 0, none⟩) 3 cap', i64 0] ∧
      Hp w w' [(b', .cells ⟨u8s [111, 107, 10] ++ List.replicate (cap' - 3) (.int .u8 0)⟩ 5 (cap', cap' + 1)), (s, .cells ⟨shellCells 99 (.map (some m))⟩ 43 (0, 0))] ∧ w.heap.size ≤ b' ∧ 3 ≤ cap') fun v w' ⟨b', cap', h⟩ => ⟨b', cap', 3, rfl, h⟩
  refine line_said_ct s b o cap m clock 4 [115, 101, 97, 116, 115, 32, 57, 57] [101, 97, 116, 115] 115 [[57, 57]] cs t f es kvs 43 #[] #[ptr b1, ptr b2] [111, 107, 10] [(s, .cells ⟨shellCells 99 (.map (some m))⟩ 43 (0, 0))] w
    hb (by simpa using hoc) hl (by decide) (by decide) (by decide) (by decide) S.hs S.hm S.ms ha fun wb w2 H hwb => ?_
  have hwb' : w.heap.size ≤ wb := hwb
  have H0 := Hp.drop (M := [_]) H (by simp [hwb'])
  have old : ∀ k o', w.heap[k]? = some o' → w2.heap[k]? = some o' := fun k o' h => by
    rw [H0.old k (heap_lt h) (by simp)]; exact h
  have hs2 := old _ _ S.hs
  refine ahead1_ct (behind wb 1) b1 b2 s 68 #[] #[ptr b3] 4 _ w2 (old _ _ (S.hB _ h1)) (old _ _ (S.hB _ h2)) hs2 ?_
  refine (number1_ct s wb b3 1 _ [str [115, 101, 97, 116, 115], str [57, 57]] rfl w2 hs2 (H.has (wb, _) (List.mem_cons_self ..)) (old _ _ (S.hB _ h3))).mono fun v w3 hv => ?_
  obtain ⟨rfl, H3⟩ := hv
  exact ⟨_, _, rfl, rfl, (H0.know hs2 (by simp)).mod 0 rfl H3⟩

theorem line_begin_ct (s b o cap m clock : Nat) (cs : List Value) (t : TypeId) (f : Nat × Nat) (es : List MapEntry) (kvs : List (List UInt8 × Value)) (B : Blks)
    (w : World) (hb : w.heap[b]? = some (.cells ⟨cs⟩ t f)) (hoc : o + 5 ≤ cs.length) (hl : (cs.drop o).take 5 = u8s [98, 101, 103, 105, 110])
    (S : Sh w s 99 m clock es kvs B) : Ct Tryz.prog 4 #[ptr s, .slice (some ⟨b, o, none⟩) 5 cap] w fun v w' => ∃ b' cap' n8, n8 = 8 ∧ v = .tuple #[.slice (some ⟨b', 0, none⟩) n8 cap', i64 0] ∧
      Hp w w' [(b', .cells ⟨u8s [101, 114, 114, 111, 114, 32, 50, 10] ++ List.replicate (cap' - 8) (.int .u8 0)⟩ 5 (cap', cap' + 1))] ∧ w.heap.size ≤ b' ∧ 8 ≤ cap' := by
  obtain ⟨b1, b2, ha, h1, h2⟩ := S.T.bgn rfl
  refine (?_ : Ct _ _ _ _ _).mono (R := fun v w' => ∃ b' cap', v = .tuple #[.slice (some ⟨b', 0, none⟩) 8 cap', i64 0] ∧
      Hp w w' [(b', .cells ⟨u8s [101, 114, 114, 111, 114, 32, 50, 10] ++ List.replicate (cap' - 8) (.int .u8 0)⟩ 5 (cap', cap' + 1))] ∧ w.heap.size ≤ b' ∧ 8 ≤ cap') fun v w' ⟨b', cap', h⟩ => ⟨b', cap', 8, rfl, h⟩
  refine line_said_ct s b o cap m clock 99 [98, 101, 103, 105, 110] [101, 103, 105, 110] 98 [] cs t f es kvs 43 #[] #[ptr b1, ptr b2] [101, 114, 114, 111, 114, 32, 50, 10] [] w
    hb (by simpa using hoc) hl (by decide) (by decide) (by decide) (by decide) S.hs S.hm S.ms ha fun wb w2 H hwb => ?_
  have hwb' : w.heap.size ≤ wb := hwb
  have H0 := Hp.drop (M := [_]) H (by simp [hwb'])
  have old : ∀ k o', w.heap[k]? = some o' → w2.heap[k]? = some o' := fun k o' h => by
    rw [H0.old k (heap_lt h) (by simp)]; exact h
  have hs2 := old _ _ S.hs
  refine ahead1_ct (behind wb 0) b1 b2 s 17 #[ptr s] #[] 99 _ w2 (old _ _ (S.hB _ h1)) (old _ _ (S.hB _ h2)) hs2 ?_
  refine (begin_ct s 0 _ _ w2 hs2).mono fun v w3 hv => ?_
  obtain ⟨rfl, H3⟩ := hv
  exact ⟨_, _, rfl, rfl, H0.pure H3⟩

end Go.Proofs
