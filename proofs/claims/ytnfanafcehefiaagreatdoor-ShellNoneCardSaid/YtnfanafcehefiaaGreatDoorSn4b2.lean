/- A part of the claim: see the text that holds the theorem. -/
import Derived.Test.YtnfanafcehefiaaGreatDoorSn4b1
set_option linter.unusedSimpArgs false
set_option linter.unusedVariables false
namespace Go.Proofs
open Go Go.Bz
set_option maxRecDepth 100000
set_option maxHeartbeats 1000000

theorem all_mid (s m : Nat) (es : List MapEntry) (clock : Nat) (kvs : List (List UInt8 × Value)) (B : Blks) (w w' : World) (hm0 : w.heap.size ≤ m) (H : Hp w w' ((m, .map ⟨es⟩ clock) :: B)) (hm : MapIs strEnc es clock kvs)
    (T : Tbl s B kvs true false false) (hB : ∀ p ∈ B, w.heap.size ≤ p.1) (e : Env) :
    codeE Tryz.prog (after 3 (Tryz.f12.body.getD .skip)) (finE Tryz.prog Tryz.f12.results.toList fun v w' => ∃ m es clock kvs B, v = .map (some m) ∧ Hp w w' ((m, .map ⟨es⟩ clock) :: B) ∧ MapIs strEnc es clock kvs ∧ Tbl s B kvs true true true ∧ w.heap.size ≤ m ∧ ∀ p ∈ B, w.heap.size ≤ p.1)
      (ovl [(0, ptr s), (3, ptr s), (4, .map (some m))] e) [] w' := by
  refine cut_rule (fun _ : List MapEntry × Nat × List (List UInt8 × Value) × Blks => []) (fun x w' => Hp w w' ((m, .map ⟨x.1⟩ x.2.1) :: x.2.2.2) ∧ MapIs strEnc x.1 x.2.1 x.2.2.1 ∧
    Tbl s x.2.2.2 x.2.2.1 true true false ∧ ∀ p ∈ x.2.2.2, w.heap.size ≤ p.1) ?_ ?next
  case next =>
    rintro ⟨es, clock, kvs, B⟩ w1 h1 ⟨H, hm, T, hB⟩
    refine codeE_at [(0, ptr s), (3, ptr s), (4, .map (some m))] ⟨rfl, rfl, rfl, trivial⟩ fun e' => ?_
    exact all_tail1 s m _ _ _ B w _ hm0 H hm T hB e'
  refine DRAW.plan (.q 1 <| .q 2 <| .q 3 <| .q 5 <| .q 6 <| .q 7 <| .q 9 <| .q 10 <| .q 11 <| .q 13 <| .q 14 <| .q 15 <| .q 17 <| .q 18 <| .q 19 <| .q 21 <| .q 22 <| .q 23 <| .q 25 <| .q 26 <| .q 27 <|
    .q 29 <| .q 30 <| .q 31 <| .q 34 <| .q 35 <| .q 36 <| .q 37 <| .q 39 <| .q 40 <| .q 41 <| .q 42 <| .e 0 <| .many [4, 8, 12, 16, 20, 24, 28, 32, 33, 38, 43] <| .q 44 <| .e 45 .done) (by kernel_rfl)
    fun w2 e1 e2 e3 e4 => ?_
  have H := H.same e1 e2 e3 e4
  refine AL.hp H fun mm w3 hmm H => ?_
  refine ⟨rfl, fun done w' => ∃ es2 clock2 kvs2, Hp w w' ((mm, .map ⟨es2⟩ clock2) :: (m, .map ⟨es⟩ clock) :: B) ∧
    MapIs strEnc es2 clock2 kvs2 ∧ Nums s done kvs2, ⟨[], 0, [], H, MapIs.nil _, by simp, by simp⟩, ?_, ?_⟩
  · intro done i w' hi hnd hI
    obtain ⟨es, clock, kvs, H, hms, N⟩ := hI
    simp only [List.mem_cons, List.not_mem_nil, or_false] at hi
    rcases hi with rfl | rfl | rfl | rfl | rfl | rfl | rfl | rfl | rfl | rfl | rfl
    · exact MUP.hp H 0 strEnc_ok rfl rfl rfl hms (k := [115, 101, 97, 116, 115]) fun w1 es' clock' H hms => ⟨rfl, rfl, es', clock', _, H, hms, N.put 4 (by decide) (by decide) (by decide) (.inr ⟨_, rfl⟩) (fun _ => rfl) (fun _ => rfl)⟩
    · exact MUP.hp H 0 strEnc_ok rfl rfl rfl hms (k := [113, 117, 101, 117, 101]) fun w1 es' clock' H hms => ⟨rfl, rfl, es', clock', _, H, hms, N.put 8 (by decide) (by decide) (by decide) (.inr ⟨_, rfl⟩) (fun e => absurd e (by decide)) (fun e => absurd e (by decide))⟩
    · exact MUP.hp H 0 strEnc_ok rfl rfl rfl hms (k := [113, 117, 97, 110, 116, 117, 109]) fun w1 es' clock' H hms => ⟨rfl, rfl, es', clock', _, H, hms, N.put 12 (by decide) (by decide) (by decide) (.inr ⟨_, rfl⟩) (fun e => absurd e (by decide)) (fun e => absurd e (by decide))⟩
    · exact MUP.hp H 0 strEnc_ok rfl rfl rfl hms (k := [115, 101, 116, 116, 108, 101]) fun w1 es' clock' H hms => ⟨rfl, rfl, es', clock', _, H, hms, N.put 16 (by decide) (by decide) (by decide) (.inr ⟨_, rfl⟩) (fun e => absurd e (by decide)) (fun e => absurd e (by decide))⟩
    · exact MUP.hp H 0 strEnc_ok rfl rfl rfl hms (k := [114, 97, 116, 101]) fun w1 es' clock' H hms => ⟨rfl, rfl, es', clock', _, H, hms, N.put 20 (by decide) (by decide) (by decide) (.inr ⟨_, rfl⟩) (fun e => absurd e (by decide)) (fun e => absurd e (by decide))⟩
    · exact MUP.hp H 0 strEnc_ok rfl rfl rfl hms (k := [98, 117, 114, 115, 116]) fun w1 es' clock' H hms => ⟨rfl, rfl, es', clock', _, H, hms, N.put 24 (by decide) (by decide) (by decide) (.inr ⟨_, rfl⟩) (fun e => absurd e (by decide)) (fun e => absurd e (by decide))⟩
    · exact MUP.hp H 0 strEnc_ok rfl rfl rfl hms (k := [105, 100, 108, 101]) fun w1 es' clock' H hms => ⟨rfl, rfl, es', clock', _, H, hms, N.put 28 (by decide) (by decide) (by decide) (.inr ⟨_, rfl⟩) (fun e => absurd e (by decide)) (fun e => absurd e (by decide))⟩
    · exact MUP.hp H 0 strEnc_ok rfl rfl rfl hms (k := [97, 99, 99, 111, 117, 110, 116, 115]) fun w1 es' clock' H hms => ⟨rfl, rfl, es', clock', _, H, hms, N.put 32 (by decide) (by decide) (by decide) (.inr ⟨_, rfl⟩) (fun e => absurd e (by decide)) (fun e => absurd e (by decide))⟩
    · exact MUP.hp H 0 strEnc_ok rfl rfl rfl hms (k := [99, 111, 110, 116, 114, 97, 99, 116, 115]) fun w1 es' clock' H hms => ⟨rfl, rfl, es', clock', _, H, hms, N.put 33 (by decide) (by decide) (by decide) (.inl rfl) (fun e => absurd e (by decide)) (fun e => absurd e (by decide))⟩
    · exact MUP.hp H 0 strEnc_ok rfl rfl rfl hms (k := [108, 111, 103]) fun w1 es' clock' H hms => ⟨rfl, rfl, es', clock', _, H, hms, N.put 38 (by decide) (by decide) (by decide) (.inr ⟨_, rfl⟩) (fun e => absurd e (by decide)) (fun e => absurd e (by decide))⟩
    · exact MUP.hp H 0 strEnc_ok rfl rfl rfl hms (k := [115, 108, 111, 116]) fun w1 es' clock' H hms => ⟨rfl, rfl, es', clock', _, H, hms, N.put 43 (by decide) (by decide) (by decide) (.inr ⟨_, rfl⟩) (fun e => absurd e (by decide)) (fun e => absurd e (by decide))⟩
  · intro done w' hall hI
    obtain ⟨es2, clock2, kvs2, H, hms, N⟩ := hI
    have hst := N.sts (hall 4 (by decide))
    refine RNG.map rfl H 0 rfl fun it w4 hit H => ?_
    refine LOOP.rule (fun _ : List Nat × List MapEntry × Nat × List (List UInt8 × Value) × Blks × Bool => [])
      (fun x w' => Hp w w' ((it, .mapIter (some mm) clock2 ⟨x.1⟩ clock2) :: (mm, .map ⟨es2⟩ clock2) :: (m, .map ⟨x.2.1⟩ x.2.2.1) :: x.2.2.2.2.1) ∧ MapIs strEnc x.2.1 x.2.2.1 x.2.2.2.1 ∧
        Tbl s x.2.2.2.2.1 x.2.2.2.1 true x.2.2.2.2.2 false ∧ (∀ e ∈ es2, e.born ∈ x.1 → e.key = str kSeats → x.2.2.2.2.2 = true) ∧ ∀ p ∈ x.2.2.2.2.1, w.heap.size ≤ p.1)
      (fun x => unseen es2 x.1) ([], es, clock, kvs, B, false) trivial ⟨H, hm, T, by simp, hB⟩ ?_
    clear H hm T hB
    rintro ⟨seen, es, clock, kvs, B, st⟩ w5 h5 ⟨H, hm, T, hseen, hB⟩
    dsimp only at H hm T hseen hB
    refine NXT.map H 0 1 rfl rfl hms.lt (fun hover w6 H => ?_) (fun e he hns w6 H => ?_)
    · obtain ⟨p, hp, hpk⟩ := hst
      obtain ⟨e, he, hek, -⟩ := map_has hms hp
      have hst := hseen e he (hover e he) (by rw [hek, hpk])
      subst hst
      have H := Hp.drop (M := [_, _]) H (by simp [hit, hmm])
      exact ⟨rfl, (es, clock, kvs, B), trivial, H, hm, T, hB⟩
    · refine ENT.hp H 0 1 rfl rfl he hms.born ?_
      obtain ⟨p, hp, hek, hev⟩ := map_entry hms he
      obtain ⟨hp1, hp2, hp3, hp4, hp5⟩ := N.all p hp
      obtain ⟨pk, pv⟩ := p
      have he0 := he
      obtain ⟨ek, ev, eb⟩ := e
      dsimp only at hek hev hns H hp1 hp2 hp3 hp4 hp5
      subst hev
      subst hek
      have other : ∀ e ∈ es2, e.born ∈ seen ++ [eb] → e.key = str kSeats → pk ≠ kSeats → st = true := fun e he' hb hk hne => by
        rcases List.mem_append.1 hb with hb | hb
        · exact hseen e he' hb hk
        · have := eq_of_born hms.born he' he0 (by simpa using hb)
          rw [this] at hk
          exact absurd (str_inj hk) hne
      rcases hp4 with hv | ⟨off, hv⟩
      · subst hv
        have hne : pk ≠ kSeats := fun h => by have := hp5 h; cases this
        exact ⟨rfl, (seen ++ [eb], es, clock, kvs, B, st), trivial, ⟨H, hm, T, fun e he' hb hk => other e he' hb hk hne, hB⟩, unseen_lt he hns⟩
      · subst hv
        refine CALLW.ct (number_ct ⟨s, off, none⟩ _) fun v w7 hv => ?_
        obtain ⟨b3, rfl, H7, hb3⟩ := hv
        have hb3' : w.heap.size ≤ b3 := Nat.le_trans H.le hb3
        have H := H.more H7 (by simp [hb3])
        refine CALLW.ct (ahead_ct s 68 #[] #[ptr b3] _) fun v w8 hv => ?_
        obtain ⟨b1, b2, rfl, H8, hb1, hb2⟩ := hv
        have hb1' : w.heap.size ≤ b1 := Nat.le_trans H.le hb1
        have hb2' : w.heap.size ≤ b2 := Nat.le_trans H.le hb2
        have H := H.more H8 (by simp [hb1, hb2])
        refine MUP.hp H 5 strEnc_ok rfl rfl rfl hm (k := pk) fun w9 es9 clock9 H hm => ?_
        by_cases hk : pk = kSeats
        · have hoff : off = 0 := by
            have := hp5 hk
            injection this with this; injection this with this; injection this
          subst hoff
          have H : Hp w w9 ([(b2, .cells ⟨[fnv 68 #[] #[ptr b3]]⟩ 34 (0, 0)), (b1, .cells ⟨[ptr s]⟩ 22 (0, 0)), (b3, .cells ⟨[ptr s]⟩ 56 (0, 0))] ++
            ([(it, .mapIter (some mm) clock2 ⟨seen ++ [eb]⟩ clock2), (mm, .map ⟨es2⟩ clock2), (m, .map ⟨es9⟩ clock9)] ++ B)) := H
          have H := H.perm (perm_mid _ _ _)
          refine ⟨rfl, (seen ++ [eb], es9, clock9, upsert kvs pk (fnv 43 #[] #[ptr b1, ptr b2]), (b2, .cells ⟨[fnv 68 #[] #[ptr b3]]⟩ 34 (0, 0)) :: (b1, .cells ⟨[ptr s]⟩ 22 (0, 0)) :: (b3, .cells ⟨[ptr s]⟩ 56 (0, 0)) :: B, true), trivial, ?inv,
            unseen_lt he hns⟩
          case inv =>
            refine ⟨H, hm, ?_, fun _ _ _ _ => rfl, fun p hp => ?_⟩
            · exact (T.more fun p hp => List.mem_cons_of_mem _ (List.mem_cons_of_mem _ (List.mem_cons_of_mem _ hp))).put hp1 true true false (fun _ => by rw [if_neg hp2])
                (fun _ => by rw [if_pos hk]; exact ⟨b1, b2, b3, rfl, by simp, by simp, by simp⟩) (fun e => by cases e)
            · simp only [List.mem_cons] at hp
              rcases hp with rfl | rfl | rfl | hp
              · exact hb2'
              · exact hb1'
              · exact hb3'
              · exact hB p hp
        · have H := Hp.drop (M := [_, _, _]) H (by simp [hb1', hb2', hb3'])
          exact ⟨rfl, (seen ++ [eb], es9, clock9, _, B, st), trivial, ⟨H, hm, T.other hp1 hp2 hk hp3, fun e he' hb hk' => other e he' hb hk' hk, hB⟩, unseen_lt he hns⟩

end Go.Proofs
