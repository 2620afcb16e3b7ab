/- A part of the claim: see the text that holds the theorem. -/
import Derived.Test.YtnfanafcehefiaaGreatDoorBzHeap
set_option linter.unusedSimpArgs false
set_option linter.unusedVariables false
/-! One introduction lemma (or a few) for each word. -/
namespace Go.Bz

theorem CALLW.ct {P : Program} {g : FuncId} {args : Array Value} {w : World} {R : Value → World → Prop} (h : Ct P g args w R) {ds : List Deferred}
    {K : Value → List Deferred → World → Prop} (k : ∀ v w', R v w' → K v ds w') : CALLW P g args ds K w := by
  unfold CALLW
  exact .inl (h.mono k)

theorem CALLW.ext {P : Program} {g : FuncId} {args : Array Value} {w : World} {ds : List Deferred}
    {K : Value → List Deferred → World → Prop} (h : semE P (callFunc g args) (nextE P ds K) w) : CALLW P g args ds K w := by
  unfold CALLW
  exact .inr h

theorem IFB.mk {b : Bool} {p q : Prop} (hp : b = true → p) (hq : b = false → q) : IFB b p q := by
  cases b with
  | true => exact hp rfl
  | false => exact hq rfl
theorem IFB.yes {b : Bool} {p q : Prop} (hb : b = true) (hp : p) : IFB b p q := by subst hb; exact hp
theorem IFB.no {b : Bool} {p q : Prop} (hb : b = false) (hq : q) : IFB b p q := by subst hb; exact hq

theorem pureE_bind {α β : Type} {P : Program} {s : Sem α} {f : α → Sem β} {K : β → Prop} : pureE P (s >>= f) K = pureE P s (fun a => pureE P (f a) K) := by
  show pureE P (Sem.bind s f) K = _
  induction s <;> simp_all [Sem.bind, pureE]

theorem pureE_underlying {P : Program} {t : TypeId} {d : TypeDesc} {K : TypeDesc → Prop} (h : P.underlying t = some d) : pureE P (underlying t) K = K d := by
  show pureE P (match P.underlying t with | some d => (pure d : Sem TypeDesc) | none => stuck "no such type") K = _
  rw [h]; rfl

theorem pureE_sizeOf {P : Program} {t : TypeId} {n : Nat} {K : Nat → Prop} (h : sizeB P t = some n) : pureE P (sizeOf t) K = K n := by
  unfold sizeB at h
  cases hi : P.info? t with
  | none => simp [hi] at h
  | some i =>
    simp only [hi, Option.map_some, Option.some.injEq] at h
    subst h
    show pureE P (typeInfo t >>= fun i => pure i.size) K = _
    rw [pureE_bind]
    show pureE P (match P.info? t with | some d => (pure d : Sem TypeInfo) | none => stuck "no such type") _ = _
    rw [hi]; rfl

theorem readE_bind {α β : Type} {P : Program} {s : Sem α} {f : α → Sem β} {K : β → Prop} {w : World} : readE P (s >>= f) K w = readE P s (fun a => readE P (f a) K w) w := by
  show readE P (Sem.bind s f) K w = _
  induction s with
  | frozen a k ih => simp only [Sem.bind, readE, ih]
  | _ => simp_all [Sem.bind, readE]

theorem readE_pure {α : Type} {P : Program} {s : Sem α} {K : α → Prop} (h : pureE P s K) (w : World) : readE P s K w := by
  induction s with
  | pure a => exact h
  | program k ih => exact ih _ h
  | mark m k ih => exact ih h
  | _ => exact h.elim

theorem readE_underlying {P : Program} {t : TypeId} {d : TypeDesc} {K : TypeDesc → Prop} {w : World} (h : P.underlying t = some d) : readE P (underlying t) K w = K d := by
  show readE P (match P.underlying t with | some d => (pure d : Sem TypeDesc) | none => stuck "no such type") K w = _
  rw [h]; rfl

theorem semE_underlying {P : Program} {t : TypeId} {d : TypeDesc} {K : TypeDesc → World → Prop} {w : World} (h : P.underlying t = some d) : semE P (underlying t) K w = K d w := by
  show semE P (match P.underlying t with | some d => (pure d : Sem TypeDesc) | none => stuck "no such type") K w = _
  rw [h]; rfl

theorem semE_typeInfo {P : Program} {t : TypeId} {i : TypeInfo} {K : TypeInfo → World → Prop} {w : World} (h : P.info? t = some i) : semE P (typeInfo t) K w = K i w := by
  show semE P (match P.info? t with | some d => (pure d : Sem TypeInfo) | none => stuck "no such type") K w = _
  rw [h]; rfl

theorem semE_sizeOf {P : Program} {t : TypeId} {n : Nat} {K : Nat → World → Prop} {w : World} (h : sizeB P t = some n) : semE P (sizeOf t) K w = K n w := by
  unfold sizeB at h
  cases hi : P.info? t with
  | none => simp [hi] at h
  | some i =>
    simp only [hi, Option.map_some, Option.some.injEq] at h
    subst h
    show semE P (typeInfo t >>= fun i => pure i.size) K w = _
    rw [semE_bind, semE_typeInfo hi]; rfl

theorem semE_of_pure {α : Type} {P : Program} {s : Sem α} {K : α → World → Prop} {w : World} (h : pureE P s (fun a => K a w)) : semE P s K w :=
  semE_mono (fun _ _ ⟨he, hk⟩ => by rw [he]; exact hk) (pureE_semE h w)

/-! ### indexes -/

theorem IXA.slice {P : Program} {t el : TypeId} {sz : Nat} (hu : P.underlying t = some (.slice el)) (hs : sizeB P el = some sz) {b o len cap : Nat} {k : IntKind} {n : Int} {K : Value → Prop}
    (h : 0 ≤ n ∧ n < len) (hk : K (.pointer (some ⟨b, o + n.toNat * sz, none⟩))) : IXA P t (.slice (some ⟨b, o, none⟩) len cap) (.int k n) K := by
  unfold IXA
  refine ⟨?_⟩
  unfold Instr.indexAt
  rw [pureE_bind]
  show pureE P (underlying t >>= _) K
  rw [pureE_bind, pureE_underlying hu]
  show pureE P (underlying t >>= _) K
  rw [pureE_bind, pureE_underlying hu]
  dsimp only
  rw [if_pos h, pureE_bind, pureE_sizeOf hs, Addr.add_none]
  exact hk

theorem IXA.arr {P : Program} {t el : TypeId} {sz len : Nat} (hu : P.underlying t = some (.array len el)) (hs : sizeB P el = some sz) {b o : Nat} {k : IntKind} {n : Int} {K : Value → Prop}
    (h : 0 ≤ n ∧ n < len) (hk : K (.pointer (some ⟨b, o + n.toNat * sz, none⟩))) : IXA P t (.pointer (some ⟨b, o, none⟩)) (.int k n) K := by
  unfold IXA
  refine ⟨?_⟩
  unfold Instr.indexAt
  rw [pureE_bind]
  show pureE P (underlying t >>= _) K
  rw [pureE_bind, pureE_underlying hu]
  show pureE P (underlying t >>= _) K
  rw [pureE_bind, pureE_underlying hu]
  dsimp only
  rw [if_pos h, pureE_bind, pureE_sizeOf hs, Addr.add_none]
  exact hk

theorem bytes_get? (l : List UInt8) (i : Nat) : (⟨⟨l⟩⟩ : ByteArray)[i]? = l[i]? := by
  cases h : l[i]? with
  | none =>
    have : l.length ≤ i := by simpa using h
    rw [getElem?_neg]
    show ¬ i < ByteArray.size ⟨⟨l⟩⟩
    simp [ByteArray.size]; omega
  | some b =>
    obtain ⟨hlt, he⟩ := List.getElem?_eq_some_iff.1 h
    rw [getElem?_pos (h := (by simpa [ByteArray.size] using hlt))]
    rw [← he]; rfl

theorem IX.str {P : Program} {t : TypeId} (hu : P.underlying t = some .string) {l : List UInt8} {k : IntKind} {n : Int} {c : UInt8} {K : Value → Prop}
    (h : 0 ≤ n) (hc : l[n.toNat]? = some c) (hk : K (.int .u8 c.toNat)) : IX P t (.string ⟨⟨l⟩⟩) (.int k n) K := by
  unfold IX
  refine ⟨?_⟩
  unfold Instr.index
  rw [pureE_bind]
  show pureE P (underlying t >>= _) K
  rw [pureE_bind, pureE_underlying hu]
  dsimp only
  rw [if_pos h, bytes_get?, hc]
  exact hk

/-! ### slicing -/

theorem pureE_sliceBound {P : Program} {k : IntKind} {n : Int} {y : Nat} {c : BoundsCode} {K : Nat → Prop} (h : 0 ≤ n ∧ n ≤ y) : pureE P (Instr.sliceBound (.int k n) y c) K = K n.toNat := by
  unfold Instr.sliceBound
  rw [pureE_bind]
  show pureE P (if 0 ≤ n ∧ n ≤ y then pure n.toNat else _) K = _
  rw [if_pos h]; rfl

/-- The two or three bounds of a slice expression. -/
structure Bnds (len cap : Nat) (lo hi mx : Option Value) (l h m : Nat) : Prop where
  max : match mx with | some v => ∃ k, v = .int k m | none => m = cap
  high : match hi with | some v => ∃ k, v = .int k h | none => h = len ∧ mx = none
  low : match lo with | some v => ∃ k, v = .int k l | none => l = 0
  le1 : l ≤ h
  le2 : h ≤ m
  le3 : m ≤ cap

theorem pureE_sliceBounds {P : Program} {s : Bool} {len cap : Nat} {lo hi mx : Option Value} {l h m : Nat} {K : Nat × Nat × Nat → Prop} (hb : Bnds len cap lo hi mx l h m) (k : K (l, h, m)) :
    pureE P (Instr.sliceBounds s len cap lo hi mx) K := by
  obtain ⟨h1, h2, h3, h4, h5, h6⟩ := hb
  unfold Instr.sliceBounds
  cases mx with
  | none =>
    simp only at h1
    subst h1
    cases hi with
    | none =>
      obtain ⟨rfl, -⟩ := h2
      cases lo with
      | none => simp only at h3; subst h3; exact k
      | some v =>
        obtain ⟨kk, rfl⟩ := h3
        dsimp only
        rw [pureE_bind]
        show pureE P (pure h >>= _) K
        rw [pureE_bind]
        show pureE P (Instr.sliceBound _ _ _ >>= _) K
        rw [pureE_bind, pureE_sliceBound (by omega)]
        exact k
    | some u =>
      obtain ⟨ku, rfl⟩ := h2
      cases lo with
      | none =>
        simp only at h3; subst h3
        dsimp only
        rw [pureE_bind]
        show pureE P (Instr.sliceBound _ _ _ >>= _) K
        rw [pureE_bind, pureE_sliceBound (by omega)]
        exact k
      | some v =>
        obtain ⟨kk, rfl⟩ := h3
        dsimp only
        rw [pureE_bind]
        show pureE P (Instr.sliceBound _ _ _ >>= _) K
        rw [pureE_bind, pureE_sliceBound (by omega)]
        show pureE P (Instr.sliceBound _ _ _ >>= _) K
        rw [pureE_bind, pureE_sliceBound (by simp; omega)]
        exact k
  | some x =>
    obtain ⟨kx, rfl⟩ := h1
    cases hi with
    | none => exact absurd h2.2 (by simp)
    | some u =>
      obtain ⟨ku, rfl⟩ := h2
      cases lo with
      | none =>
        simp only at h3; subst h3
        dsimp only
        rw [pureE_bind, pureE_sliceBound (by omega)]
        show pureE P (Instr.sliceBound _ _ _ >>= _) K
        rw [pureE_bind, pureE_sliceBound (by simp; omega)]
        exact k
      | some v =>
        obtain ⟨kk, rfl⟩ := h3
        dsimp only
        rw [pureE_bind, pureE_sliceBound (by omega)]
        show pureE P (Instr.sliceBound _ _ _ >>= _) K
        rw [pureE_bind, pureE_sliceBound (by simp; omega)]
        show pureE P (Instr.sliceBound _ _ _ >>= _) K
        rw [pureE_bind, pureE_sliceBound (by simp; omega)]
        exact k

theorem extract_mk (l : List UInt8) (a b : Nat) : (⟨⟨l⟩⟩ : ByteArray).extract a b = ⟨⟨(l.drop a).take (b - a)⟩⟩ := by
  apply ByteArray.ext
  rw [ByteArray.data_extract]
  apply Array.ext'
  simp [List.extract_eq_take_drop]

theorem SLC.str {P : Program} {t : TypeId} (hu : P.underlying t = some .string) {l : List UInt8} {lo hi : Option Value} {a b : Nat} {K : Value → Prop}
    (hb : Bnds l.length l.length lo hi none a b l.length) (hk : K (.string ⟨⟨(l.drop a).take (b - a)⟩⟩)) : SLC P t (.string ⟨⟨l⟩⟩) lo hi none K := by
  unfold SLC
  refine ⟨?_⟩
  unfold Instr.sliceAt
  rw [pureE_bind, pureE_underlying hu]
  dsimp only
  unfold Instr.slice
  rw [pureE_bind, pureE_underlying hu]
  dsimp only
  rw [if_neg (by simp), pureE_bind]
  refine pureE_sliceBounds (l := a) (h := b) (m := l.length) (by simpa [ByteArray.size] using hb) ?_
  show K (.string ((⟨⟨l⟩⟩ : ByteArray).extract a b))
  rw [extract_mk]; exact hk

theorem SLC.slice {P : Program} {t el : TypeId} {sz : Nat} (hu : P.underlying t = some (.slice el)) (hs : sizeB P el = some sz) {x : Option Addr} {len cap : Nat} {lo hi mx : Option Value} {l h m : Nat} {K : Value → Prop}
    (hb : Bnds len cap lo hi mx l h m) (hk : K (.slice (if m = l then x else x.map (·.add (l * sz))) (h - l) (m - l))) : SLC P t (.slice x len cap) lo hi mx K := by
  unfold SLC
  refine ⟨?_⟩
  unfold Instr.sliceAt
  rw [pureE_bind, pureE_underlying hu]
  dsimp only
  unfold Instr.slice
  rw [pureE_bind, pureE_underlying hu]
  dsimp only
  rw [pureE_bind]
  refine pureE_sliceBounds hb ?_
  rw [pureE_bind, pureE_sizeOf hs]
  exact hk

/-- An array's part. -/
theorem SLC.arr {P : Program} {t el : TypeId} {sz n : Nat} (hu : P.underlying t = some (.array n el)) (hs : sizeB P el = some sz) {b o : Nat} {lo hi mx : Option Value} {l h m : Nat} {K : Value → Prop}
    (hb : Bnds n n lo hi mx l h m) (hk : K (.slice (some (if m = l then ⟨b, o, none⟩ else ⟨b, o + l * sz, none⟩)) (h - l) (m - l))) : SLC P t (.pointer (some ⟨b, o, none⟩)) lo hi mx K := by
  unfold SLC
  refine ⟨?_⟩
  unfold Instr.sliceAt
  rw [pureE_bind, pureE_underlying hu]
  dsimp only
  rw [pureE_bind]
  show pureE P (Instr.sliceBounds _ _ _ _ _ _ >>= _) K
  rw [pureE_bind]
  refine pureE_sliceBounds hb ?_
  rw [pureE_bind, pureE_sizeOf hs]
  simp only [Addr.add_none]
  exact hk

end Go.Bz
