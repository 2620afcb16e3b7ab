/- A part of the claim: see the text that holds the theorem. -/
import Derived.Test.YtnfanafcehefiaaGreatDoorBzMore
set_option linter.unusedSimpArgs false
set_option linter.unusedVariables false
/-! Conversions between integers; strings to bytes; joined and compared strings. -/
namespace Go.Bz

theorem CNV.int {P : Program} {s d : TypeId} {ds : TypeDesc} {k k' : IntKind} (hs : P.underlying s = some ds) (hd : P.underlying d = some (.int k')) {n : Int} {K : Value → World → Prop} {w : World}
    (h : K (.int k' (k'.wrap n)) w) : CNV P s d (.int k n) K w := by
  rw [CNV_def]
  unfold convert
  rw [semE_bind, semE_underlying hs, semE_bind, semE_underlying hd]
  exact h

theorem CNV.strStr {P : Program} {s d : TypeId} {ds : TypeDesc} (hs : P.underlying s = some ds) (hd : P.underlying d = some .string) {x : ByteArray} {K : Value → World → Prop} {w : World}
    (h : K (.string x) w) : CNV P s d (.string x) K w := by
  rw [CNV_def]
  unfold convert
  rw [semE_bind, semE_underlying hs, semE_bind, semE_underlying hd]
  exact h

/-- What marks a block as made from a string, or as turned into one. -/
theorem semE_mark {P : Program} {w0 w : World} {L : Blks} (H : Hp w0 w L) (i : Nat) {b o : Nat} {c : List Value} {t : TypeId} (hi : L[i]? = some (b, .cells ⟨c⟩ t (0, 0))) {K : Unit → World → Prop}
    (k : ∀ w', Hp w0 w' (L.set i (b, .cells ⟨c⟩ t (c.length, c.length + 1))) → K () w') : semE P (markStringish ⟨b, o, none⟩) K w := by
  have hb := H.at i hi
  have hsh : w.shape? b = some (t, c.length) := by simp [World.shape?, hb]
  have hfz : Hp w0 (w.freeze ⟨b, c.length, none⟩ 1) (L.set i (b, .cells ⟨c⟩ t (c.length, c.length + 1))) := by
    refine H.put i hi ?_ (fun k hk => ?_) (by simp [World.freeze]) (by simp [World.freeze]) (by simp [World.freeze]) (by simp [World.freeze])
    · simp [World.freeze, Array.getElem?_modify, hb]
    · simp only [World.freeze]
      rw [if_neg (by omega)]
      simp only [Array.getElem?_modify]
      rw [if_neg (by omega)]
  show SH w _ _
  rw [SH_def]
  show semE P (match w.shape? b with | some (_, n) => freeze ⟨b, n, none⟩ 1 | x => pure () : Sem Unit) K w
  rw [hsh]
  exact k _ hfz

abbrev u8s (l : List UInt8) : List Value := l.map fun x => .int .u8 x.toNat

theorem CNV.bytes {P : Program} {s d e : TypeId} (hs : P.underlying s = some .string) (hd : P.underlying d = some (.slice e)) (he : P.underlying e = some (.int .u8)) {l : List UInt8} {w0 w : World} {L : Blks}
    (H : Hp w0 w L) {K : Value → World → Prop}
    (k : ∀ b w' cap, l.length ≤ cap → w0.heap.size ≤ b → Hp w0 w' ((b, .cells ⟨u8s l ++ List.replicate (cap - l.length) (.int .u8 0)⟩ e (cap, cap + 1)) :: L) →
      K (.slice (some ⟨b, 0, none⟩) l.length cap) w') : CNV P s d (.string ⟨⟨l⟩⟩) K w := by
  rw [CNV_def]
  unfold convert
  rw [semE_bind, semE_underlying hs, semE_bind, semE_underlying hd]
  show semE P (underlying e >>= _) K w
  rw [semE_bind, semE_underlying he]
  show semE P (choose _ >>= _) K w
  rw [semE_bind]
  show CH w _ _
  rw [CH_def, if_neg (by simp [Question.forced])]
  intro tt
  have hsz : (⟨⟨l⟩⟩ : ByteArray).size = l.length := rfl
  have hcap : l.length ≤ (Question.appendCap l.length 0 e).cut tt := by simp only [Question.cut]; omega
  rw [hsz]
  generalize (Question.appendCap l.length 0 e).cut tt = cap at hcap
  have harr : ((⟨l⟩ : Array UInt8).map (fun b => (Value.int .u8 b.toNat)) ++ Array.replicate (cap - l.length) (Value.int .u8 0)) = ⟨u8s l ++ List.replicate (cap - l.length) (.int .u8 0)⟩ := by
    apply Array.ext'; simp
  show semE P (newRow e _ >>= _) K _
  dsimp only
  rw [harr]
  show AL _ _ _
  refine AL.hp (H.drew _) fun b w' hb H' => ?_
  show semE P (markStringish ⟨b, 0, none⟩ >>= _) K w'
  rw [semE_bind]
  refine semE_mark H' 0 rfl fun w'' H'' => ?_
  have hlen : (u8s l ++ List.replicate (cap - l.length) (Value.int .u8 0)).length = cap := by simp; omega
  rw [hlen] at H''
  exact k b w'' cap hcap hb H''

/-- A block that holds what it held at first need not be told. -/
theorem Hp.forget {w0 w : World} {L : Blks} {b : Nat} {o : Obj} (H : Hp w0 w ((b, o) :: L)) (hb : w0.heap[b]? = some o) : Hp w0 w L := by
  refine ⟨H.os, H.tape, H.output, H.le, fun p hp => H.has p (List.mem_cons_of_mem _ hp), fun k hk hn => ?_, (List.nodup_cons.1 H.nd).2⟩
  by_cases hkb : b = k
  · subst hkb; rw [H.has (b, o) (List.mem_cons_self ..), hb]
  · refine H.old k hk fun p hp => ?_
    rcases List.mem_cons.1 hp with rfl | hp
    · exact hkb
    · exact hn p hp

theorem append_mk (a b : List UInt8) : ((⟨⟨a⟩⟩ : ByteArray) ++ ⟨⟨b⟩⟩) = ⟨⟨a ++ b⟩⟩ := by
  apply ByteArray.ext
  rw [ByteArray.data_append]
  apply Array.ext'; simp

/-- What is left of a code after its first parts. -/
def after : Nat → Code → Code
  | n + 1, .seq _ b => after n b
  | _, c => c

/-- The slots that matter from here on. -/
theorem codeE_at {P : Program} {c : Code} {Q : Post} {e : Env} {ds : List Deferred} {w : World} (vals : List (Nat × Value)) (h : Holds e vals)
    (k : ∀ e', codeE P c Q (ovl vals e') ds w) : codeE P c Q e ds w := by
  have := k e
  rwa [ovl_holds h] at this

end Go.Bz
