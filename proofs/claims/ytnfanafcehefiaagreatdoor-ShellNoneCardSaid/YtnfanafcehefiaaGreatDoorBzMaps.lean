/- A part of the claim: see the text that holds the theorem. -/
import Derived.Test.YtnfanafcehefiaaGreatDoorBzWords
set_option linter.unusedSimpArgs false
set_option linter.unusedVariables false
/-! Maps: a list of keys and values, in the order in which they came. -/
namespace Go.Bz

structure KeyEnc {κ : Type} [DecidableEq κ] (kind : TypeDesc) (enc : κ → Value) : Prop where
  same : ∀ a b, Instr.sameNow kind (enc a) (enc b) = some (decide (a = b))
  bits : ∀ a n, Instr.sameBits n (enc a) (enc a) = true
  check : ∀ (P : Program) (t : TypeId) (a : κ) (e : Bool) (n : Nat) (K : Unit → Prop), P.underlying t = some kind → pureE P (Instr.checkKey e (n + 1) t (enc a)) K = K ()

def strEnc (l : List UInt8) : Value := .string ⟨⟨l⟩⟩
def intEnc (n : Int) : Value := .int .i64 n

theorem bytes_beq (a b : List UInt8) : ((⟨⟨a⟩⟩ : ByteArray) == ⟨⟨b⟩⟩) = decide (a = b) := by
  show ((⟨a⟩ : Array UInt8) == ⟨b⟩) = _
  rw [Bool.eq_iff_iff, beq_iff_eq, decide_eq_true_iff]
  constructor
  · intro h; injection h
  · rintro rfl; rfl

theorem strEnc_ok : KeyEnc .string strEnc where
  same a b := by
    simp only [Instr.sameNow, strEnc, bytes_beq]
  bits a n := by
    cases n <;> simp [Instr.sameBits, strEnc, bytes_beq]
  check P t a e n K h := by
    unfold Instr.checkKey
    rw [pureE_bind, pureE_underlying h]
    rfl

theorem intEnc_ok : KeyEnc (.int .i64) intEnc where
  same a b := by
    simp only [Instr.sameNow, intEnc, if_true]
    congr 1
  bits a n := by
    cases n <;> simp [Instr.sameBits, intEnc]
  check P t a e n K h := by
    unfold Instr.checkKey
    rw [pureE_bind, pureE_underlying h]
    rfl

section
variable {κ : Type} [DecidableEq κ]

def assoc : List (κ × Value) → κ → Option Value
  | [], _ => none
  | (a, v) :: r, k => if k = a then some v else assoc r k

def upsert : List (κ × Value) → κ → Value → List (κ × Value)
  | [], k, v => [(k, v)]
  | (a, u) :: r, k, v => if k = a then (a, v) :: r else (a, u) :: upsert r k v

def erase : List (κ × Value) → κ → List (κ × Value)
  | [], _ => []
  | (a, u) :: r, k => if k = a then r else (a, u) :: erase r k

theorem assoc_upsert (l : List (κ × Value)) (k k' : κ) (v : Value) : assoc (upsert l k v) k' = if k' = k then some v else assoc l k' := by
  induction l with
  | nil => simp [upsert, assoc]
  | cons p r ih =>
    obtain ⟨a, u⟩ := p
    simp only [upsert]
    by_cases h : k = a
    · subst h
      rw [if_pos rfl]; simp only [assoc]
      by_cases h' : k' = k <;> simp [h']
    · rw [if_neg h]; simp only [assoc, ih]
      by_cases h' : k' = a
      · subst h'; rw [if_pos rfl, if_neg (fun e => h e.symm), if_pos rfl]
      · rw [if_neg h', if_neg h']

theorem mem_upsert {l : List (κ × Value)} {k a : κ} {v : Value} (h : a ∈ (upsert l k v).map (·.1)) : a = k ∨ a ∈ l.map (·.1) := by
  induction l with
  | nil => simp [upsert] at h; exact .inl h
  | cons p r ih =>
    obtain ⟨b, u⟩ := p
    simp only [upsert] at h
    by_cases hk : k = b
    · rw [if_pos hk] at h; exact .inr h
    · rw [if_neg hk] at h
      simp only [List.map_cons, List.mem_cons] at h ⊢
      rcases h with h | h
      · exact .inr (.inl h)
      · exact (ih h).imp id .inr

/-- The entries of a map block. -/
structure MapIs (enc : κ → Value) (es : List MapEntry) (clock : Nat) (kvs : List (κ × Value)) : Prop where
  kv : es.map (fun e => (e.key, e.val)) = kvs.map (fun p => (enc p.1, p.2))
  born : (es.map (·.born)).Nodup
  lt : ∀ e ∈ es, e.born < clock

omit [DecidableEq κ] in
theorem MapIs.nil (enc : κ → Value) : MapIs enc [] 0 [] := ⟨rfl, by simp, by simp⟩

/-- Where a key is found. -/
def idxOf : List (κ × Value) → κ → Nat → Option (Nat × Value)
  | [], _, _ => none
  | (a, v) :: r, k, i => if k = a then some (i, v) else idxOf r k (i + 1)

theorem idxOf_assoc (l : List (κ × Value)) (k : κ) (i : Nat) : (idxOf l k i).map (·.2) = assoc l k := by
  induction l generalizing i with
  | nil => rfl
  | cons p r ih => obtain ⟨a, v⟩ := p; simp only [idxOf, assoc]; split <;> simp [ih]

theorem findNow_eq {kind : TypeDesc} {enc : κ → Value} (hk : KeyEnc kind enc) (k : κ) : ∀ (es : List MapEntry) (kvs : List (κ × Value)) (i : Nat),
    es.map (fun e => (e.key, e.val)) = kvs.map (fun p => (enc p.1, p.2)) → Instr.findNow kind (enc k) es i = some (idxOf kvs k i)
  | [], [], i, _ => rfl
  | [], _ :: _, i, h => by simp at h
  | _ :: _, [], i, h => by simp at h
  | e :: es, (a, v) :: kvs, i, h => by
    simp only [List.map_cons, List.cons.injEq, Prod.mk.injEq] at h
    obtain ⟨⟨h1, h2⟩, h3⟩ := h
    simp only [Instr.findNow, idxOf, h1, hk.same]
    by_cases hka : k = a
    · simp [hka, h2]
    · simp only [hka, decide_false, if_false]
      exact findNow_eq hk k es kvs (i + 1) h3

theorem GO.hp {w0 w : World} {L : Blks} (H : Hp w0 w L) (i : Nat) {r : Nat} {o : Obj} {K : Obj → Prop} (hi : L[i]? = some (r, o)) (hn : ∀ c t f, o ≠ .cells c t f) (k : K o) : GO w r K := by
  unfold GO
  exact ⟨o, H.at i hi, hn, k⟩

theorem SO.hp {w0 w : World} {L : Blks} (H : Hp w0 w L) (i : Nat) {r : Nat} {o o' : Obj} {K : World → Prop} (hi : L[i]? = some (r, o)) (hn : ∀ c t f, o ≠ .cells c t f)
    (k : ∀ w', Hp w0 w' (L.set i (r, o')) → K w') : SO w r o' K := by
  unfold SO
  have hb := H.at i hi
  refine ⟨⟨o, hb, hn⟩, k _ (H.put i hi ?_ ?_ ?_ rfl rfl rfl)⟩
  · simp [heap_lt hb]
  · intro k hk; simp only []; rw [Array.getElem?_setIfInBounds_ne (by omega)]
  · simp

theorem run_find {P : Program} {kt : TypeId} {kind : TypeDesc} {enc : κ → Value} (hk : KeyEnc kind enc) (hkt : P.underlying kt = some kind) {k : κ} {es : List MapEntry} {kvs : List (κ × Value)}
    (h : es.map (fun e => (e.key, e.val)) = kvs.map (fun p => (enc p.1, p.2))) {K : Option (Nat × Value) → Prop} : pureE P (Instr.findKey kt (enc k) es) K = K (idxOf kvs k 0) := by
  unfold Instr.findKey
  rw [pureE_bind, pureE_underlying hkt, findNow_eq hk k es kvs 0 h]
  rfl

theorem pureE_zero {P : Program} {t : TypeId} {z : Value} {K : Value → Prop} (h : (P.info? t).bind (·.zero) = some z) : pureE P (zeroValue t) K = K z := by
  cases hi : P.info? t with
  | none => simp [hi] at h
  | some i =>
    simp only [hi, Option.bind_some] at h
    show pureE P (typeInfo t >>= fun i => match i.zero with | some v => pure v | none => unsupported (.resourceLimit "a value of more than 2^22 cells")) K = _
    rw [pureE_bind]
    show pureE P (match P.info? t with | some d => (pure d : Sem TypeInfo) | none => stuck "no such type") _ = _
    rw [hi]
    show pureE P (match i.zero with | some v => pure v | none => _) K = _
    rw [h]; rfl

theorem LKP.hp {w0 w : World} {L : Blks} (H : Hp w0 w L) (i : Nat) {P : Program} {t kt vt : TypeId} {kind : TypeDesc} {enc : κ → Value} (hk : KeyEnc kind enc) (hu : P.underlying t = some (.map kt vt))
    (hkt : P.underlying kt = some kind) {z : Value} (hz : (P.info? vt).bind (·.zero) = some z) {r clock : Nat} {es : List MapEntry} {kvs : List (κ × Value)}
    (hi : L[i]? = some (r, .map ⟨es⟩ clock)) (hm : es.map (fun e => (e.key, e.val)) = kvs.map (fun p => (enc p.1, p.2))) {k : κ} {ok : Bool} {K : Value → Prop}
    (hsome : ∀ v, assoc kvs k = some v → K (match ok with | true => .tuple #[v, .bool true] | false => v))
    (hnone : assoc kvs k = none → K (match ok with | true => .tuple #[z, .bool false] | false => z)) : LKP P t (.map (some r)) (enc k) ok K w := by
  unfold LKP
  refine ⟨?_⟩
  unfold Instr.lookup
  rw [readE_bind, readE_underlying hu]
  show readE P (Sem.bind (getObj r) _) K w
  refine GO.hp H i hi (by intros; simp) ?_
  show readE P (Instr.checkKey _ (9999 + 1) kt (enc k) >>= _) K w
  rw [readE_bind]
  refine readE_pure ?_ w
  rw [hk.check P kt k _ _ _ hkt, readE_bind]
  refine readE_pure ?_ w
  rw [run_find hk hkt hm]
  have hia := idxOf_assoc kvs k 0
  cases hx : idxOf kvs k 0 with
  | some p =>
    obtain ⟨j, v⟩ := p
    rw [hx] at hia
    have := hsome v hia.symm
    cases ok <;> exact this
  | none =>
    rw [hx] at hia
    have := hnone hia.symm
    show readE P (zeroValue vt >>= _) K w
    rw [readE_bind]
    refine readE_pure ?_ w
    rw [pureE_zero hz]
    cases ok <;> exact this

/-- A nil map. -/
theorem LKP.nil {P : Program} {t kt vt : TypeId} {kind : TypeDesc} {enc : κ → Value} (hk : KeyEnc kind enc) (hu : P.underlying t = some (.map kt vt))
    (hkt : P.underlying kt = some kind) {z : Value} (hz : (P.info? vt).bind (·.zero) = some z) {k : κ} {ok : Bool} {K : Value → Prop} {w : World}
    (h : K (match ok with | true => .tuple #[z, .bool false] | false => z)) : LKP P t (.map none) (enc k) ok K w := by
  unfold LKP
  refine ⟨?_⟩
  unfold Instr.lookup
  rw [readE_bind, readE_underlying hu]
  show readE P (Instr.checkKey _ (9999 + 1) kt (enc k) >>= _) K w
  rw [readE_bind]
  refine readE_pure ?_ w
  rw [hk.check P kt k _ _ _ hkt, readE_bind]
  refine readE_pure ?_ w
  rw [run_find (kvs := ([] : List (κ × Value))) hk hkt rfl]
  show readE P (zeroValue vt >>= _) K w
  rw [readE_bind]
  refine readE_pure ?_ w
  rw [pureE_zero hz]
  cases ok <;> exact h

theorem idxOf_spec {l : List (κ × Value)} {k : κ} {i j : Nat} {v : Value} (h : idxOf l k i = some (j, v)) : i ≤ j ∧ l[j - i]? = some (k, v) := by
  induction l generalizing i with
  | nil => simp [idxOf] at h
  | cons p r ih =>
    obtain ⟨a, u⟩ := p
    simp only [idxOf] at h
    split at h
    · rename_i hk
      simp only [Option.some.injEq, Prod.mk.injEq] at h
      obtain ⟨rfl, rfl⟩ := h
      simp [hk]
    · obtain ⟨h1, h2⟩ := ih h
      refine ⟨by omega, ?_⟩
      rw [show j - i = (j - (i + 1)) + 1 by omega]
      simpa using h2

theorem upsert_set {l : List (κ × Value)} {k : κ} {i j : Nat} {v u : Value} (h : idxOf l k i = some (j, u)) : upsert l k v = l.set (j - i) (k, v) := by
  induction l generalizing i with
  | nil => simp [idxOf] at h
  | cons p r ih =>
    obtain ⟨a, x⟩ := p
    simp only [idxOf] at h
    simp only [upsert]
    split at h
    · rename_i hk
      simp only [Option.some.injEq, Prod.mk.injEq] at h
      obtain ⟨rfl, rfl⟩ := h
      rw [if_pos hk]; simp [hk]
    · rename_i hk
      rw [if_neg hk]
      have h1 := (idxOf_spec h).1
      rw [ih h, show j - i = (j - (i + 1)) + 1 by omega]; rfl

theorem upsert_new {l : List (κ × Value)} {k : κ} {i : Nat} {v : Value} (h : idxOf l k i = none) : upsert l k v = l ++ [(k, v)] := by
  induction l generalizing i with
  | nil => rfl
  | cons p r ih =>
    obtain ⟨a, x⟩ := p
    simp only [idxOf] at h
    simp only [upsert]
    split at h
    · cases h
    · rename_i hk; rw [if_neg hk, ih h]; rfl

theorem MUP.hp {w0 w : World} {L : Blks} (H : Hp w0 w L) (i : Nat) {P : Program} {t kt vt : TypeId} {kind : TypeDesc} {enc : κ → Value} (hk : KeyEnc kind enc) (hu : P.underlying t = some (.map kt vt))
    (hkt : P.underlying kt = some kind) {r clock : Nat} {es : List MapEntry} {kvs : List (κ × Value)}
    (hi : L[i]? = some (r, .map ⟨es⟩ clock)) (hm : MapIs enc es clock kvs) {k : κ} {v : Value} {K : Unit → World → Prop}
    (h : ∀ w' es' clock', Hp w0 w' (L.set i (r, .map ⟨es'⟩ clock')) → MapIs enc es' clock' (upsert kvs k v) → K () w') : MUP P t (.map (some r)) (enc k) v K w := by
  unfold MUP
  refine ⟨?_⟩
  unfold Instr.mapUpdate
  rw [semE_bind, semE_underlying hu]
  show semE P (Sem.bind (getObj r) _) K w
  refine GO.hp H i hi (by intros; simp) ?_
  show semE P (Instr.checkKey _ (9999 + 1) kt (enc k) >>= _) K w
  rw [semE_bind]
  refine semE_of_pure ?_
  rw [hk.check P kt k _ _ _ hkt, semE_bind]
  refine semE_of_pure ?_
  rw [run_find hk hkt hm.kv]
  cases hx : idxOf kvs k 0 with
  | some p =>
    obtain ⟨j, u⟩ := p
    obtain ⟨-, hj⟩ := idxOf_spec hx
    simp only [Nat.sub_zero] at hj
    have hjl : j < kvs.length := (List.getElem?_eq_some_iff.1 hj).1
    have hlen : es.length = kvs.length := by simpa using congrArg List.length hm.kv
    have hej : (es.map (fun e => (e.key, e.val)))[j]? = some (enc k, u) := by rw [hm.kv, List.getElem?_map, hj]; rfl
    rw [List.getElem?_map] at hej
    cases he : es[j]? with
    | none => simp [he] at hej
    | some e =>
      simp only [he, Option.map_some, Option.some.injEq, Prod.mk.injEq] at hej
      show semE P (Instr.keyThatStays ((((⟨es⟩ : Array MapEntry)[j]?).map (·.key)).getD (enc k)) (enc k) >>= _) K w
      have hkey : (((⟨es⟩ : Array MapEntry)[j]?).map (·.key)).getD (enc k) = enc k := by
        rw [List.getElem?_toArray, he]; exact hej.1
      rw [hkey, semE_bind]
      refine semE_of_pure ?_
      unfold Instr.keyThatStays
      rw [if_pos (hk.bits _ _)]
      show semE P (setObj r _) K w
      refine SO.hp H i hi (by intros; simp) fun w' H' => ?_
      have hmod : (⟨es⟩ : Array MapEntry).modify j (fun e => { e with key := enc k, val := v }) = ⟨es.set j { e with key := enc k, val := v }⟩ := by
        apply Array.ext'
        rw [Array.toList_modify]
        apply List.ext_getElem?
        intro n
        rw [List.getElem?_modify, List.getElem?_set]
        by_cases hjn : j = n
        · subst hjn
          rw [if_pos rfl, if_pos (by omega)]
          show _ <$> es[j]? = _
          rw [he]; simp
        · rw [if_neg hjn]
          show _ <$> es[n]? = _
          cases es[n]? <;> simp [hjn]
      refine h w' _ _ (by rw [hmod] at H'; exact H') ⟨?_, ?_, ?_⟩
      · rw [List.map_set, hm.kv, upsert_set hx, List.map_set, Nat.sub_zero]
      · rw [List.map_set]
        have : (es.map (·.born)).set j e.born = es.map (·.born) := by
          apply List.ext_getElem?
          intro n
          rw [List.getElem?_set]
          split
          · rename_i hjn; subst hjn; rw [if_pos (by simp; omega), List.getElem?_map, he]; rfl
          · rfl
        rw [this]; exact hm.born
      · intro x hx'
        obtain ⟨n, hn⟩ := List.mem_iff_getElem?.1 hx'
        rw [List.getElem?_set] at hn
        split at hn
        · split at hn
          · simp only [Option.some.injEq] at hn; rw [← hn]; exact hm.lt e (List.mem_of_getElem? he)
          · cases hn
        · exact hm.lt x (List.mem_of_getElem? hn)
  | none =>
    show semE P (setObj r _) K w
    refine SO.hp H i hi (by intros; simp) fun w' H' => ?_
    refine h w' (es ++ [{ key := enc k, val := v, born := clock }]) (clock + 1) (by simpa using H') ⟨?_, ?_, ?_⟩
    · rw [upsert_new hx, List.map_append, List.map_append, hm.kv]; rfl
    · rw [List.map_append, List.nodup_append]
      refine ⟨hm.born, by simp, fun a ha b hb he => ?_⟩
      obtain ⟨x, hx1, hx2⟩ := List.mem_map.1 ha
      simp only [List.map_cons, List.map_nil, List.mem_singleton] at hb
      have := hm.lt x hx1
      omega
    · intro x hx'
      rcases List.mem_append.1 hx' with h1 | h1
      · have := hm.lt x h1; omega
      · simp only [List.mem_singleton] at h1; rw [h1]; simp

end
end Go.Bz
