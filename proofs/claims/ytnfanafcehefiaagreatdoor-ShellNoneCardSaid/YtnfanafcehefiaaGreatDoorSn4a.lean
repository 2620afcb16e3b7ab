/- A part of the claim: see the text that holds the theorem. -/
import Derived.Test.YtnfanafcehefiaaGreatDoorSn3
set_option linter.unusedSimpArgs false
set_option linter.unusedVariables false
namespace Go.Proofs
open Go Go.Bz
set_option maxRecDepth 100000
set_option maxHeartbeats 1000000

/-! The shell's table of commands. -/

abbrev kBegin : List UInt8 := [98, 101, 103, 105, 110]
abbrev kSeats : List UInt8 := [115, 101, 97, 116, 115]
abbrev kRound : List UInt8 := [114, 111, 117, 110, 100]

structure Tbl (s : Nat) (B : Blks) (kvs : List (List UInt8 × Value)) (bg st rd : Bool) : Prop where
  short : ∀ k v, assoc kvs k = some v → k.length ≤ 9
  bgn : bg = true → ∃ b1 b2, assoc kvs kBegin = some (fnv 43 #[] #[ptr b1, ptr b2]) ∧ (b1, .cells ⟨[ptr s]⟩ 22 (0, 0)) ∈ B ∧ (b2, .cells ⟨[fnv 17 #[ptr s] #[]]⟩ 34 (0, 0)) ∈ B
  sts : st = true → ∃ b1 b2 b3, assoc kvs kSeats = some (fnv 43 #[] #[ptr b1, ptr b2]) ∧ (b1, .cells ⟨[ptr s]⟩ 22 (0, 0)) ∈ B ∧ (b2, .cells ⟨[fnv 68 #[] #[ptr b3]]⟩ 34 (0, 0)) ∈ B ∧
    (b3, .cells ⟨[ptr s]⟩ 56 (0, 0)) ∈ B
  rnd : rd = true → ∃ b1 b2, assoc kvs kRound = some (fnv 47 #[] #[ptr b1, ptr b2]) ∧ (b1, .cells ⟨[ptr s]⟩ 22 (0, 0)) ∈ B

theorem Tbl.nil (s : Nat) : Tbl s [] [] false false false := ⟨by simp [assoc], by simp, by simp, by simp⟩

theorem Tbl.more {s : Nat} {B B' : Blks} {kvs : List (List UInt8 × Value)} {bg st rd : Bool} (h : Tbl s B kvs bg st rd) (hs : ∀ p ∈ B, p ∈ B') : Tbl s B' kvs bg st rd :=
  ⟨h.short, fun e => let ⟨b1, b2, h1, h2, h3⟩ := h.bgn e; ⟨b1, b2, h1, hs _ h2, hs _ h3⟩,
    fun e => let ⟨b1, b2, b3, h1, h2, h3, h4⟩ := h.sts e; ⟨b1, b2, b3, h1, hs _ h2, hs _ h3, hs _ h4⟩, fun e => let ⟨b1, b2, h1, h2⟩ := h.rnd e; ⟨b1, b2, h1, hs _ h2⟩⟩

theorem Tbl.put {s : Nat} {B : Blks} {kvs : List (List UInt8 × Value)} {bg st rd : Bool} (h : Tbl s B kvs bg st rd) {k : List UInt8} {v : Value} (hk : k.length ≤ 9) (bg' st' rd' : Bool)
    (hb : bg' = true → if k = kBegin then ∃ b1 b2, v = fnv 43 #[] #[ptr b1, ptr b2] ∧ (b1, .cells ⟨[ptr s]⟩ 22 (0, 0)) ∈ B ∧ (b2, .cells ⟨[fnv 17 #[ptr s] #[]]⟩ 34 (0, 0)) ∈ B else bg = true)
    (hs : st' = true → if k = kSeats then ∃ b1 b2 b3, v = fnv 43 #[] #[ptr b1, ptr b2] ∧ (b1, .cells ⟨[ptr s]⟩ 22 (0, 0)) ∈ B ∧ (b2, .cells ⟨[fnv 68 #[] #[ptr b3]]⟩ 34 (0, 0)) ∈ B ∧
      (b3, .cells ⟨[ptr s]⟩ 56 (0, 0)) ∈ B else st = true)
    (hr : rd' = true → if k = kRound then ∃ b1 b2, v = fnv 47 #[] #[ptr b1, ptr b2] ∧ (b1, .cells ⟨[ptr s]⟩ 22 (0, 0)) ∈ B else rd = true) : Tbl s B (upsert kvs k v) bg' st' rd' := by
  refine ⟨fun k' v' h' => ?_, fun e => ?_, fun e => ?_, fun e => ?_⟩
  · rw [assoc_upsert] at h'
    by_cases hkk : k' = k
    · rw [hkk]; exact hk
    · rw [if_neg hkk] at h'; exact h.short _ _ h'
  · have hb := hb e
    rw [assoc_upsert]
    by_cases hkk : k = kBegin
    · rw [if_pos hkk] at hb; rw [if_pos hkk.symm]
      obtain ⟨b1, b2, rfl, h2, h3⟩ := hb; exact ⟨b1, b2, rfl, h2, h3⟩
    · rw [if_neg hkk] at hb; rw [if_neg (Ne.symm hkk)]; exact h.bgn hb
  · have hs := hs e
    rw [assoc_upsert]
    by_cases hkk : k = kSeats
    · rw [if_pos hkk] at hs; rw [if_pos hkk.symm]
      obtain ⟨b1, b2, b3, rfl, h2, h3, h4⟩ := hs; exact ⟨b1, b2, b3, rfl, h2, h3, h4⟩
    · rw [if_neg hkk] at hs; rw [if_neg (Ne.symm hkk)]; exact h.sts hs
  · have hr := hr e
    rw [assoc_upsert]
    by_cases hkk : k = kRound
    · rw [if_pos hkk] at hr; rw [if_pos hkk.symm]
      obtain ⟨b1, b2, rfl, h2⟩ := hr; exact ⟨b1, b2, rfl, h2⟩
    · rw [if_neg hkk] at hr; rw [if_neg (Ne.symm hkk)]; exact h.rnd hr

theorem Tbl.other {s : Nat} {B : Blks} {kvs : List (List UInt8 × Value)} {bg st rd : Bool} (h : Tbl s B kvs bg st rd) {k : List UInt8} {v : Value} (hk : k.length ≤ 9)
    (h1 : k ≠ kBegin) (h2 : k ≠ kSeats) (h3 : k ≠ kRound) : Tbl s B (upsert kvs k v) bg st rd :=
  h.put hk _ _ _ (fun e => by rw [if_neg h1]; exact e) (fun e => by rw [if_neg h2]; exact e) (fun e => by rw [if_neg h3]; exact e)

theorem ahead_weak (s f : Nat) (first cap : Array Value) (w : World) : Ct Tryz.prog 15 #[ptr s, fnv f first cap] w fun _ w' => Hp w w' [] :=
  (ahead_ct s f first cap w).mono fun _ _ ⟨_, _, _, H, h1, h2⟩ => Hp.drop (M := [_, _]) H (by simp [h1, h2])

theorem during_weak (s f : Nat) (first cap : Array Value) (w : World) : Ct Tryz.prog 18 #[ptr s, fnv f first cap] w fun _ w' => Hp w w' [] :=
  (during_ct s f first cap w).mono fun _ _ ⟨_, _, _, H, h1, h2⟩ => Hp.drop (M := [_, _]) H (by simp [h1, h2])

/-- The pointers to the set's numbers. -/
structure Nums (s : Nat) (done : List Nat) (kvs : List (List UInt8 × Value)) : Prop where
  all : ∀ p ∈ kvs, p.1.length ≤ 9 ∧ p.1 ≠ kBegin ∧ p.1 ≠ kRound ∧ (p.2 = .pointer none ∨ ∃ off, p.2 = .pointer (some ⟨s, off, none⟩)) ∧ (p.1 = kSeats → p.2 = ptr s)
  sts : 4 ∈ done → ∃ p ∈ kvs, p.1 = kSeats

theorem mem_upsert' {l : List (List UInt8 × Value)} {k : List UInt8} {v : Value} {p : List UInt8 × Value} (h : p ∈ upsert l k v) : p = (k, v) ∨ p ∈ l := by
  induction l with
  | nil => exact .inl (by simpa [upsert] using h)
  | cons q l ih =>
    obtain ⟨a, u⟩ := q
    simp only [upsert] at h
    split at h
    · rename_i hk
      rcases List.mem_cons.1 h with rfl | h
      · exact .inl (by rw [hk])
      · exact .inr (List.mem_cons_of_mem _ h)
    · rcases List.mem_cons.1 h with rfl | h
      · exact .inr (List.mem_cons_self ..)
      · rcases ih h with rfl | h
        · exact .inl rfl
        · exact .inr (List.mem_cons_of_mem _ h)

theorem key_upsert (l : List (List UInt8 × Value)) (k : List UInt8) (v : Value) : ∃ p ∈ upsert l k v, p.1 = k := by
  induction l with
  | nil => exact ⟨(k, v), by simp [upsert], rfl⟩
  | cons q l ih =>
    obtain ⟨a, u⟩ := q
    simp only [upsert]
    split
    · rename_i hk; exact ⟨(a, v), List.mem_cons_self .., hk.symm⟩
    · obtain ⟨p, hp, h⟩ := ih; exact ⟨p, List.mem_cons_of_mem _ hp, h⟩

theorem keys_upsert {l : List (List UInt8 × Value)} {k a : List UInt8} {v : Value} (h : ∃ p ∈ l, p.1 = a) : ∃ p ∈ upsert l k v, p.1 = a := by
  induction l with
  | nil => obtain ⟨p, hp, -⟩ := h; cases hp
  | cons q l ih =>
    obtain ⟨b, u⟩ := q
    obtain ⟨p, hp, hpa⟩ := h
    simp only [upsert]
    split
    · rename_i hk
      rcases List.mem_cons.1 hp with rfl | hp
      · exact ⟨(b, v), List.mem_cons_self .., hpa⟩
      · exact ⟨p, List.mem_cons_of_mem _ hp, hpa⟩
    · rcases List.mem_cons.1 hp with rfl | hp
      · exact ⟨_, List.mem_cons_self .., hpa⟩
      · obtain ⟨p', hp', h'⟩ := ih ⟨p, hp, hpa⟩
        exact ⟨p', List.mem_cons_of_mem _ hp', h'⟩

theorem Nums.put {s : Nat} {done : List Nat} {kvs : List (List UInt8 × Value)} (h : Nums s done kvs) (i : Nat) {k : List UInt8} {v : Value} (hk : k.length ≤ 9) (h1 : k ≠ kBegin) (h2 : k ≠ kRound)
    (hv : v = .pointer none ∨ ∃ off, v = .pointer (some ⟨s, off, none⟩)) (h3 : k = kSeats → v = ptr s) (h4 : i = 4 → k = kSeats) : Nums s (i :: done) (upsert kvs k v) := by
  refine ⟨fun p hp => ?_, fun hd => ?_⟩
  · rcases mem_upsert' hp with rfl | hp
    · exact ⟨hk, h1, h2, hv, h3⟩
    · exact h.all p hp
  · rcases List.mem_cons.1 hd with hi | hd
    · rw [← h4 hi.symm]; exact key_upsert _ _ _
    · exact keys_upsert (h.sts hd)

/-- How many entries a range has not come to. -/
def unseen : List MapEntry → List Nat → Nat
  | [], _ => 0
  | e :: es, seen => (if e.born ∈ seen then 0 else 1) + unseen es seen

theorem unseen_le (es : List MapEntry) (seen : List Nat) (n : Nat) : unseen es (seen ++ [n]) ≤ unseen es seen := by
  induction es with
  | nil => exact Nat.le_refl _
  | cons a es ih =>
    simp only [unseen]
    by_cases h1 : a.born ∈ seen
    · rw [if_pos h1, if_pos (List.mem_append_left _ h1)]; omega
    · rw [if_neg h1]
      split <;> omega

theorem unseen_lt {es : List MapEntry} {seen : List Nat} {e : MapEntry} (he : e ∈ es) (hn : e.born ∉ seen) : unseen es (seen ++ [e.born]) < unseen es seen := by
  induction es with
  | nil => cases he
  | cons a es ih =>
    simp only [unseen]
    rcases List.mem_cons.1 he with rfl | he
    · rw [if_neg hn, if_pos (List.mem_append_right _ (List.mem_cons_self ..))]
      have := unseen_le es seen e.born
      omega
    · have := ih he
      by_cases h1 : a.born ∈ seen
      · rw [if_pos h1, if_pos (List.mem_append_left _ h1)]; omega
      · rw [if_neg h1]
        split <;> omega

/-- An entry of a map block, by its key and value. -/
theorem map_entry {es : List MapEntry} {clock : Nat} {kvs : List (List UInt8 × Value)} (h : MapIs strEnc es clock kvs) {e : MapEntry} (he : e ∈ es) :
    ∃ p ∈ kvs, e.key = str p.1 ∧ e.val = p.2 := by
  have : (e.key, e.val) ∈ es.map (fun e => (e.key, e.val)) := List.mem_map.2 ⟨e, he, rfl⟩
  rw [h.kv] at this
  obtain ⟨p, hp, hpe⟩ := List.mem_map.1 this
  exact ⟨p, hp, (Prod.ext_iff.1 hpe).1.symm, (Prod.ext_iff.1 hpe).2.symm⟩

theorem map_has {es : List MapEntry} {clock : Nat} {kvs : List (List UInt8 × Value)} (h : MapIs strEnc es clock kvs) {p : List UInt8 × Value} (hp : p ∈ kvs) :
    ∃ e ∈ es, e.key = str p.1 ∧ e.val = p.2 := by
  have : (strEnc p.1, p.2) ∈ kvs.map (fun p => (strEnc p.1, p.2)) := List.mem_map.2 ⟨p, hp, rfl⟩
  rw [← h.kv] at this
  obtain ⟨e, he, hpe⟩ := List.mem_map.1 this
  exact ⟨e, he, (Prod.ext_iff.1 hpe).1, (Prod.ext_iff.1 hpe).2⟩


theorem eq_of_born {es : List MapEntry} (h : (es.map (·.born)).Nodup) {e e' : MapEntry} (he : e ∈ es) (he' : e' ∈ es) (hb : e.born = e'.born) : e = e' := by
  induction es with
  | nil => cases he
  | cons a es ih =>
    rw [List.map_cons, List.nodup_cons] at h
    rcases List.mem_cons.1 he with h1 | h1
    · rcases List.mem_cons.1 he' with h2 | h2
      · rw [h1, h2]
      · rw [h1] at hb; exact absurd (List.mem_map.2 ⟨e', h2, hb.symm⟩) h.1
    · rcases List.mem_cons.1 he' with h2 | h2
      · rw [h2] at hb; exact absurd (List.mem_map.2 ⟨e, h1, hb⟩) h.1
      · exact ih h.2 h1 h2

theorem str_inj {a b : List UInt8} (h : str a = str b) : a = b := by
  injection h with h; injection h with h; injection h

/-- The events' numbers. -/
structure Evs (kvs : List (List UInt8 × Value)) : Prop where
  all : ∀ p ∈ kvs, p.1.length ≤ 9 ∧ p.1 ≠ kBegin ∧ p.1 ≠ kSeats ∧ ∃ n, p.2 = i64 n

theorem Evs.nil : Evs [] := ⟨by simp⟩

theorem Evs.put {kvs : List (List UInt8 × Value)} (h : Evs kvs) {k : List UInt8} {n : Int} (h1 : k.length ≤ 9) (h2 : k ≠ kBegin) (h3 : k ≠ kSeats) : Evs (upsert kvs k (i64 n)) :=
  ⟨fun p hp => by
    rcases mem_upsert' hp with rfl | hp
    · exact ⟨h1, h2, h3, _, rfl⟩
    · exact h.all p hp⟩

/-- From the second range on: the commands with an event. -/
theorem all_tail2 (s m : Nat) (es : List MapEntry) (clock : Nat) (kvs : List (List UInt8 × Value)) (B : Blks) (w w' : World) (hm0 : w.heap.size ≤ m) (H : Hp w w' ((m, .map ⟨es⟩ clock) :: B)) (hm : MapIs strEnc es clock kvs)
    (T : Tbl s B kvs true true false) (hB : ∀ p ∈ B, w.heap.size ≤ p.1) (e : Env) :
    codeE Tryz.prog (after 6 (Tryz.f12.body.getD .skip)) (finE Tryz.prog Tryz.f12.results.toList fun v w' => ∃ m es clock kvs B, v = .map (some m) ∧ Hp w w' ((m, .map ⟨es⟩ clock) :: B) ∧ MapIs strEnc es clock kvs ∧ Tbl s B kvs true true true ∧ w.heap.size ≤ m ∧ ∀ p ∈ B, w.heap.size ≤ p.1)
      (ovl [(0, ptr s), (4, .map (some m))] e) [] w' := by
  refine AL.hp H fun mm w1 hmm H => ?_
  have hms := MapIs.nil strEnc
  have N := Evs.nil
  refine MUP.hp H 0 strEnc_ok rfl rfl rfl hms (k := [99, 111, 110, 110, 101, 99, 116]) fun w1 es1 clock1 H hms => ?_
  have N := N.put (k := [99, 111, 110, 110, 101, 99, 116]) (n := 1) (by decide) (by decide) (by decide)
  refine MUP.hp H 0 strEnc_ok rfl rfl rfl hms (k := [116, 105, 99, 107]) fun w1 es1 clock1 H hms => ?_
  have N := N.put (k := [116, 105, 99, 107]) (n := 3) (by decide) (by decide) (by decide)
  refine MUP.hp H 0 strEnc_ok rfl rfl rfl hms (k := kRound) fun w1 es1 clock1 H hms => ?_
  have N := N.put (k := kRound) (n := 4) (by decide) (by decide) (by decide)
  refine MUP.hp H 0 strEnc_ok rfl rfl rfl hms (k := [108, 101, 97, 118, 101]) fun w1 es1 clock1 H hms => ?_
  have N := N.put (k := [108, 101, 97, 118, 101]) (n := 5) (by decide) (by decide) (by decide)
  refine MUP.hp H 0 strEnc_ok rfl rfl rfl hms (k := [102, 117, 115, 101]) fun w1 es1 clock1 H hms => ?_
  have N := N.put (k := [102, 117, 115, 101]) (n := 6) (by decide) (by decide) (by decide)
  have hrd := keys_upsert (k := [102, 117, 115, 101]) (v := i64 6) (keys_upsert (k := [108, 101, 97, 118, 101]) (v := i64 5)
    (key_upsert (upsert (upsert [] [99, 111, 110, 110, 101, 99, 116] (i64 1)) [116, 105, 99, 107] (i64 3)) kRound (i64 4)))
  refine RNG.map rfl H 0 rfl fun it w4 hit H => ?_
  refine LOOP.rule (fun _ : List Nat × List MapEntry × Nat × List (List UInt8 × Value) × Blks × Bool => [])
    (fun x w' => Hp w w' ((it, .mapIter (some mm) clock1 ⟨x.1⟩ clock1) :: (mm, .map ⟨es1⟩ clock1) :: (m, .map ⟨x.2.1⟩ x.2.2.1) :: x.2.2.2.2.1) ∧ MapIs strEnc x.2.1 x.2.2.1 x.2.2.2.1 ∧
      Tbl s x.2.2.2.2.1 x.2.2.2.1 true true x.2.2.2.2.2 ∧ (∀ e ∈ es1, e.born ∈ x.1 → e.key = str kRound → x.2.2.2.2.2 = true) ∧ ∀ p ∈ x.2.2.2.2.1, w.heap.size ≤ p.1)
    (fun x => unseen es1 x.1) ([], es, clock, kvs, B, false) trivial ⟨H, hm, T, by simp, hB⟩ ?_
  clear H hm T hB
  rintro ⟨seen, es, clock, kvs, B, rd⟩ w5 h5 ⟨H, hm, T, hseen, hB⟩
  dsimp only at H hm T hseen hB
  refine NXT.map H 0 1 rfl rfl hms.lt (fun hover w6 H => ?_) (fun e he hns w6 H => ?_)
  · obtain ⟨p, hp, hpk⟩ := hrd
    obtain ⟨e, he, hek, -⟩ := map_has hms hp
    have hrd := hseen e he (hover e he) (by rw [hek, hpk])
    subst hrd
    have H := Hp.drop (M := [_, _]) H (by simp [hit, hmm])
    exact ⟨m, es, clock, kvs, B, rfl, H, hm, T, hm0, hB⟩
  · refine ENT.hp H 0 1 rfl rfl he hms.born ?_
    obtain ⟨p, hp, hek, hev⟩ := map_entry hms he
    obtain ⟨hp1, hp2, hp3, n, hpn⟩ := N.all p hp
    obtain ⟨pk, pv⟩ := p
    have he0 := he
    obtain ⟨ek, ev, eb⟩ := e
    dsimp only at hek hev hns H hp1 hp2 hp3 hpn
    subst hpn
    subst hev
    subst hek
    refine CALLW.ct (event_ct s n _) fun v w7 hv => ?_
    obtain ⟨c1, c2, rfl, H7, hc1, hc2⟩ := hv
    have H := H.pure (Hp.drop (M := [_, _]) H7 (by simp [hc1, hc2]))
    refine CALLW.ct (during_ct s 70 #[] #[ptr c1, ptr c2] _) fun v w8 hv => ?_
    obtain ⟨d1, d2, rfl, H8, hd1, hd2⟩ := hv
    have hd1' : w.heap.size ≤ d1 := Nat.le_trans H.le hd1
    have hd2' : w.heap.size ≤ d2 := Nat.le_trans H.le hd2
    have H := H.more H8 (by simp [hd1, hd2])
    refine MUP.hp H 4 strEnc_ok rfl rfl rfl hm (k := pk) fun w9 es9 clock9 H hm => ?_
    by_cases hk : pk = kRound
    · have H := Hp.drop (M := [_]) H (by simp [hd2'])
      have H := H.perm (M := (it, _) :: (mm, _) :: (m, _) :: (d1, _) :: B) (List.perm_middle (l₁ := [(it, _), (mm, _), (m, _)])).symm
      refine ⟨rfl, (seen ++ [eb], es9, clock9, _, (d1, .cells ⟨[ptr s]⟩ 22 (0, 0)) :: B, true), trivial, ⟨H, hm, ?_, fun _ _ _ _ => rfl, fun p hp => ?_⟩, unseen_lt he hns⟩
      · exact (T.more fun p hp => List.mem_cons_of_mem _ hp).put hp1 true true true (fun _ => by rw [if_neg hp2]) (fun _ => by rw [if_neg hp3])
          (fun _ => by rw [if_pos hk]; exact ⟨d1, d2, rfl, List.mem_cons_self ..⟩)
      · rcases List.mem_cons.1 hp with rfl | hp
        · exact hd1'
        · exact hB p hp
    · have H := Hp.drop (M := [_, _]) H (by simp [hd1', hd2'])
      refine ⟨rfl, (seen ++ [eb], es9, clock9, _, B, rd), trivial, ⟨H, hm, T.other hp1 hp2 hp3 hk, fun e he' hb hek => ?_, hB⟩, unseen_lt he hns⟩
      rcases List.mem_append.1 hb with hb | hb
      · exact hseen e he' hb hek
      · have := eq_of_born hms.born he' he0 (by simpa using hb)
        rw [this] at hek
        exact absurd (str_inj hek) hk

end Go.Proofs
