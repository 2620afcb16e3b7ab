/- A part of the claim: see the text that holds the theorem. -/
import Derived.Test.YtnfanafcehefiaaGreatDoorBzAppend
set_option linter.unusedSimpArgs false
set_option linter.unusedVariables false
/-! Ranges over strings and maps; conversions; strings. -/
namespace Go.Bz

theorem RNG.str {P : Program} {t : TypeId} (hu : P.underlying t = some .string) {s : ByteArray} {w0 w : World} {L : Blks} (H : Hp w0 w L) {K : Value → World → Prop}
    (k : ∀ b w', w0.heap.size ≤ b → Hp w0 w' ((b, .stringIter s 0) :: L) → K (.pointer (some ⟨b, 0, none⟩)) w') : RNG P t (.string s) K w := by
  rw [RNG_def]
  unfold Instr.range
  rw [semE_bind, semE_underlying hu]
  show AL _ _ _
  exact AL.hp H k

theorem RNG.map {P : Program} {t kt vt : TypeId} (hu : P.underlying t = some (.map kt vt)) {m clock : Nat} {es : List MapEntry} {w0 w : World} {L : Blks} (H : Hp w0 w L) (i : Nat)
    (hi : L[i]? = some (m, .map ⟨es⟩ clock)) {K : Value → World → Prop}
    (k : ∀ b w', w0.heap.size ≤ b → Hp w0 w' ((b, .mapIter (some m) clock #[] clock) :: L) → K (.pointer (some ⟨b, 0, none⟩)) w') : RNG P t (.map (some m)) K w := by
  rw [RNG_def]
  unfold Instr.range
  rw [semE_bind, semE_underlying hu]
  show semE P (Sem.bind (getObj m) _) K w
  refine GO.hp H i hi (by intros; simp) ?_
  show AL _ _ _
  exact AL.hp H k

theorem decode_ascii {l : List UInt8} {pos : Nat} {c : UInt8} (hc : l[pos]? = some c) (h : c.toNat < 128) : Utf8.decode ⟨⟨l⟩⟩ pos = (c.toNat, 1) := by
  have hg : (⟨⟨l⟩⟩ : ByteArray).get! (pos + 0) = c := by
    obtain ⟨hlt, he⟩ := List.getElem?_eq_some_iff.1 hc
    show (⟨l⟩ : Array UInt8)[pos + 0]! = c
    rw [Nat.add_zero, getElem!_pos _ _ (by simpa using hlt)]
    simpa using he
  unfold Utf8.decode
  simp only [hg]
  rw [if_pos h]

theorem NXT.step {P : Program} {t : TypeId} {l : List UInt8} {pos r : Nat} {c : UInt8} {w0 w : World} {L : Blks} (H : Hp w0 w L) (i : Nat) (hi : L[i]? = some (r, .stringIter ⟨⟨l⟩⟩ pos))
    (hc : l[pos]? = some c) (h : c.toNat < 128) {K : Value → World → Prop}
    (k : ∀ w', Hp w0 w' (L.set i (r, .stringIter ⟨⟨l⟩⟩ (pos + 1))) → K (.tuple #[.bool true, .int .i64 pos, .int .i32 c.toNat]) w') : NXT P (.pointer (some ⟨r, 0, none⟩)) true t K w := by
  rw [NXT_def]
  unfold Instr.next
  show semE P (Sem.bind (getObj r) _) K w
  refine GO.hp H i hi (by intros; simp) ?_
  have hlt : pos < (⟨⟨l⟩⟩ : ByteArray).size := (List.getElem?_eq_some_iff.1 hc).1
  show semE P (if pos < (⟨⟨l⟩⟩ : ByteArray).size then (match Utf8.decode ⟨⟨l⟩⟩ pos with
    | (c, width) => do
      setObj r (.stringIter ⟨⟨l⟩⟩ (pos + width))
      pure (.tuple #[.bool true, goInt pos, .int .i32 c])) else pure (.tuple #[.bool false]) : Sem Value) K w
  rw [if_pos hlt, decode_ascii hc h]
  show SO _ _ _ _
  exact SO.hp H i hi (by intros; simp) fun w' H' => k w' H'

theorem NXT.over {P : Program} {t : TypeId} {l : List UInt8} {pos r : Nat} {w0 w : World} {L : Blks} (H : Hp w0 w L) (i : Nat) (hi : L[i]? = some (r, .stringIter ⟨⟨l⟩⟩ pos))
    (h : l.length ≤ pos) {K : Value → World → Prop} (k : K (.tuple #[.bool false]) w) : NXT P (.pointer (some ⟨r, 0, none⟩)) true t K w := by
  rw [NXT_def]
  unfold Instr.next
  show semE P (Sem.bind (getObj r) _) K w
  refine GO.hp H i hi (by intros; simp) ?_
  show semE P (if pos < (⟨⟨l⟩⟩ : ByteArray).size then _ else _) K w
  rw [if_neg (by simpa [ByteArray.size] using h)]
  exact k

/-- A round of a range over a map that nobody writes: it is over, or comes to an entry that was not seen. -/
theorem NXT.map {P : Program} {t : TypeId} {m r clock : Nat} {es : List MapEntry} {seen : List Nat} {w0 w : World} {L : Blks} (H : Hp w0 w L) (i j : Nat)
    (hi : L[i]? = some (r, .mapIter (some m) clock ⟨seen⟩ clock)) (hj : L[j]? = some (m, .map ⟨es⟩ clock)) (hlt : ∀ e ∈ es, e.born < clock) {K : Value → World → Prop}
    (kover : (∀ e ∈ es, e.born ∈ seen) → ∀ w', Hp w0 w' L → K (.tuple #[.bool false]) w')
    (kstep : ∀ e ∈ es, e.born ∉ seen → ∀ w', Hp w0 w' (L.set i (r, .mapIter (some m) clock ⟨seen ++ [e.born]⟩ clock)) → K (.tuple #[.bool true, e.key, e.val]) w') :
    NXT P (.pointer (some ⟨r, 0, none⟩)) false t K w := by
  rw [NXT_def]
  unfold Instr.next
  show semE P (Sem.bind (getObj r) _) K w
  refine GO.hp H i hi (by intros; simp) ?_
  show semE P (Sem.bind (getObj m) _) K w
  refine GO.hp H j hj (by intros; simp) ?_
  have hguard : (!(⟨seen⟩ : Array Nat).isEmpty && !(⟨es⟩ : Array MapEntry).isEmpty && (⟨es⟩ : Array MapEntry).all (fun e => decide (e.born ≥ clock))) = false := by
    cases es with
    | nil => simp
    | cons e es =>
      have := hlt e (by simp)
      have : ¬ (e.born ≥ clock) := by omega
      simp [this]
  show semE P (if _ then _ else _) K w
  rw [hguard]
  simp only [Bool.false_eq_true, if_false]
  have hold : ((⟨es⟩ : Array MapEntry).filter (fun e => !(⟨seen⟩ : Array Nat).contains e.born)).filter (fun e => decide (e.born < clock)) = ⟨es.filter fun e => !seen.contains e.born⟩ := by
    apply Array.ext'
    simp only [Array.toList_filter, List.filter_filter, List.contains_toArray]
    apply List.filter_congr
    intro e he
    simp [hlt e he]
  have hnew : ((⟨es⟩ : Array MapEntry).filter (fun e => !(⟨seen⟩ : Array Nat).contains e.born)).filter (fun e => decide (e.born ≥ clock)) = #[] := by
    apply Array.ext'
    simp only [Array.toList_filter, List.filter_filter]
    apply List.filter_eq_nil_iff.2
    intro e he
    have := hlt e he
    simp; omega
  simp only [hold, hnew]
  generalize hleft : (es.filter fun e => !seen.contains e.born) = left
  have hmem : ∀ e ∈ left, e ∈ es ∧ e.born ∉ seen := by
    intro e he; rw [← hleft] at he; simpa using he
  cases left with
  | nil =>
    have hall : ∀ e ∈ es, e.born ∈ seen := by
      intro e he
      have := List.filter_eq_nil_iff.1 hleft e he
      simpa using this
    have hcand : ((if (⟨[]⟩ : Array MapEntry).isEmpty = true then #[none] else #[]) ++ ((⟨[]⟩ : Array MapEntry) ++ #[]).map some) = #[none] := by simp
    rw [hcand]
    show semE P (choose _ >>= _) K w
    rw [semE_bind]
    show CH w _ _
    rw [CH_def, if_pos (by simp [Question.forced])]
    exact kover hall w H
  | cons e0 left =>
    have hcand : ((if (⟨e0 :: left⟩ : Array MapEntry).isEmpty = true then #[none] else #[]) ++ ((⟨e0 :: left⟩ : Array MapEntry) ++ #[]).map some) = ⟨(e0 :: left).map some⟩ := by
      apply Array.ext'; simp
    rw [hcand]
    show semE P (choose _ >>= _) K w
    rw [semE_bind]
    show CH w _ _
    have key : ∀ n, n < (e0 :: left).length → ∀ w1, Hp w0 w1 L → semE P ((match (⟨(e0 :: left).map some⟩ : Array (Option MapEntry))[n]? with
        | some (some e) => do
          setObj r (.mapIter (some m) clock ((⟨seen⟩ : Array Nat).push e.born) clock)
          pure (.tuple #[.bool true, e.key, e.val])
        | some none => pure (.tuple #[.bool false])
        | none => stuck "Next: no such candidate" : Sem Value)) K w1 := by
      intro n hn w1 H1
      have hc : (⟨(e0 :: left).map some⟩ : Array (Option MapEntry))[n]? = some (some ((e0 :: left)[n])) := by
        rw [List.getElem?_toArray, List.getElem?_map, List.getElem?_eq_getElem hn]; rfl
      rw [hc]
      obtain ⟨h1, h2⟩ := hmem _ (List.getElem_mem hn)
      show SO _ _ _ _
      refine SO.hp H1 i hi (by intros; simp) fun w' H' => kstep _ h1 h2 w' ?_
      simpa using H'
    rw [CH_def]
    by_cases hf : (Question.mapNext (⟨(e0 :: left).map some⟩ : Array (Option MapEntry)).size).forced = true
    · rw [if_pos hf]; exact key 0 (by simp) w H
    · rw [if_neg hf]
      intro tt
      refine key _ ?_ _ (H.drew _)
      simp only [Question.cut]
      exact Nat.lt_of_lt_of_eq (Nat.mod_lt _ (by simp)) (by simp)

theorem ENT.hp {P : Program} {m r clock n : Nat} {es : List MapEntry} {seen : List Nat} {w0 w : World} {L : Blks} (H : Hp w0 w L) (i j : Nat) {e : MapEntry}
    (hi : L[i]? = some (r, .mapIter (some m) n ⟨seen ++ [e.born]⟩ clock)) (hj : L[j]? = some (m, .map ⟨es⟩ clock)) (he : e ∈ es) (hnd : (es.map (·.born)).Nodup) {K : Value → Prop}
    (k : K (.tuple #[e.key, e.val])) : ENT P (.pointer (some ⟨r, 0, none⟩)) K w := by
  rw [ENT_def]
  unfold Instr.entry
  show readE P (Sem.bind (getObj r) _) K w
  refine GO.hp H i hi (by intros; simp) ?_
  have hback : (⟨seen ++ [e.born]⟩ : Array Nat).back? = some e.born := by simp
  simp only [Sem.bind, hback]
  show readE P (Sem.bind (getObj m) _) K w
  refine GO.hp H j hj (by intros; simp) ?_
  show readE P (if (clock != clock) = true then _ else _) K w
  rw [if_neg (by simp)]
  have hfind : (⟨es⟩ : Array MapEntry).find? (fun x => x.born == e.born) = some e := by
    rw [List.find?_toArray]
    clear hj H hi hback
    induction es with
    | nil => cases he
    | cons a es ih =>
      simp only [List.map_cons, List.nodup_cons] at hnd
      rw [List.find?_cons]
      rcases List.mem_cons.1 he with rfl | he
      · simp
      · have hne : (a.born == e.born) = false := by
          simp only [beq_eq_false_iff_ne]
          intro h; exact hnd.1 (h ▸ List.mem_map.2 ⟨e, he, rfl⟩)
        rw [hne]; exact ih he hnd.2
  show readE P (match (⟨es⟩ : Array MapEntry).find? (fun x => x.born == e.born) with | some e => _ | none => _) K w
  rw [hfind]
  exact k

/-! ### conversions -/

theorem CNV.toStr {P : Program} {s d e : TypeId} (hs : P.underlying s = some (.slice e)) (he : P.underlying e = some (.int .u8)) (hd : P.underlying d = some .string) {a : Addr} {len cap : Nat} {l : List UInt8} {w0 w : World} {L : Blks}
    (H : Hp w0 w L) (i : Nat) {b o : Nat} {c : List Value} {t : TypeId} {f : Nat × Nat} (hi : L[i]? = some (b, .cells ⟨c⟩ t f)) (ha : a = ⟨b, o, none⟩) (hl : o + len ≤ c.length)
    (hc : (c.drop o).take len = l.map fun x => .int .u8 x.toNat) {K : Value → World → Prop} (k : K (.string ⟨⟨l⟩⟩) w) : CNV P s d (.slice (some a) len cap) K w := by
  subst ha
  rw [CNV_def]
  unfold convert
  rw [semE_bind, semE_underlying hs, semE_bind, semE_underlying hd]
  show semE P (underlying e >>= _) K w
  rw [semE_bind, semE_underlying he]
  show semE P (loadCells _ _ >>= _) K w
  rw [semE_bind]
  unfold loadCells
  refine semE_of_read (loadCellsFrom_hp (H.at i hi) _ 0 _ (by omega) ?_)
  rw [Nat.add_zero, hc]
  have hpure : ∀ (l : List UInt8) (acc : ByteArray) (K : ByteArray → Prop), K ⟨⟨acc.data.toList ++ l⟩⟩ →
      pureE P (forIn (l.map fun x => Value.int .u8 x.toNat) acc (fun c r => (match c with | .int .u8 n => pure (ForInStep.yield (r.push (UInt8.ofNat n.toNat))) | _ => stuck "bytesToString: byte expected" : Sem (ForInStep ByteArray)))) K := by
    intro l
    induction l with
    | nil =>
      intro acc K h
      have e : (⟨⟨acc.data.toList ++ []⟩⟩ : ByteArray) = acc := by rw [List.append_nil]
      rw [e] at h; exact h
    | cons x l ih =>
      intro acc K h
      rw [List.map_cons, List.forIn_cons, pureE_bind]
      show pureE P (forIn _ (acc.push (UInt8.ofNat ((x.toNat : Int)).toNat)) _) K
      refine ih _ K ?_
      have : (acc.push (UInt8.ofNat ((x.toNat : Int)).toNat)).data.toList = acc.data.toList ++ [x] := by
        show (acc.data.push _).toList = _
        simp
      rw [this, List.append_assoc]; exact h
  show semE P (forIn (#[] ++ (⟨l.map fun x => Value.int .u8 x.toNat⟩ : Array Value)) ByteArray.empty _ >>= _) K w
  rw [semE_bind]
  have harr : (#[] ++ (⟨l.map fun x => Value.int .u8 x.toNat⟩ : Array Value)) = ⟨l.map fun x => Value.int .u8 x.toNat⟩ := by apply Array.ext'; simp
  rw [harr, List.forIn_toArray]
  refine semE_of_pure ?_
  refine hpure l ByteArray.empty _ ?_
  exact k

theorem CNV.toStrNil {P : Program} {s d e : TypeId} (hs : P.underlying s = some (.slice e)) (he : P.underlying e = some (.int .u8)) (hd : P.underlying d = some .string) {len cap : Nat} {w : World}
    {K : Value → World → Prop} (k : K (.string ⟨⟨[]⟩⟩) w) : CNV P s d (.slice none len cap) K w := by
  rw [CNV_def]
  unfold convert
  rw [semE_bind, semE_underlying hs, semE_bind, semE_underlying hd]
  show semE P (underlying e >>= _) K w
  rw [semE_bind, semE_underlying he]
  exact k

/-- []byte of a constant: the block is marked behind its end. -/
theorem CNV.mark {P : Program} {s e : TypeId} (hs : P.underlying s = some (.slice e)) (he : P.underlying e = some (.int .u8)) {len cap : Nat} {w0 w : World} {L : Blks}
    (H : Hp w0 w L) (i : Nat) {b o : Nat} {c : List Value} {t : TypeId} (hi : L[i]? = some (b, .cells ⟨c⟩ t (0, 0))) {K : Value → World → Prop}
    (k : ∀ w', Hp w0 w' (L.set i (b, .cells ⟨c⟩ t (c.length, c.length + 1))) → K (.slice (some ⟨b, o, none⟩) len cap) w') : CNV P s s (.slice (some ⟨b, o, none⟩) len cap) K w := by
  rw [CNV_def]
  unfold convert
  rw [semE_bind, semE_underlying hs, semE_bind, semE_underlying hs]
  show semE P (underlying e >>= _) K w
  rw [semE_bind, semE_underlying he]
  have hb := H.at i hi
  have hsh : w.shape? b = some (t, c.length) := by simp [World.shape?, hb]
  have hfz : Hp w0 (w.freeze ⟨b, c.length, none⟩ 1) (L.set i (b, .cells ⟨c⟩ t (c.length, c.length + 1))) := by
    refine H.put i hi ?_ (fun k hk => ?_) (by simp [World.freeze]) (by simp [World.freeze]) (by simp [World.freeze]) (by simp [World.freeze])
    · simp [World.freeze, Array.getElem?_modify, hb]
    · simp only [World.freeze]
      rw [if_neg (by omega)]
      simp only [Array.getElem?_modify]
      rw [if_neg (by omega)]
  have hmark : ∀ (K : Unit → World → Prop), K () (w.freeze ⟨b, c.length, none⟩ 1) → semE P (markStringish ⟨b, o, none⟩) K w := by
    intro K hk
    show SH w _ _
    rw [SH_def]
    show semE P (match w.shape? b with | some (_, n) => freeze ⟨b, n, none⟩ 1 | x => pure () : Sem Unit) K w
    rw [hsh]
    exact hk
  have hss : (s == s) = true := by simp
  show semE P (match s == s, TypeDesc.int .u8 with | true, .int .u8 => (do markStringish ⟨b, o, none⟩; pure (.slice (some ⟨b, o, none⟩) len cap)) | _, _ => unsupported (.noEntry "convert/other") : Sem Value) K w
  rw [hss]
  show semE P (markStringish ⟨b, o, none⟩ >>= _) K w
  rw [semE_bind]
  exact hmark _ (k _ hfz)


/-! ### A slice of one's own, that grows -/

def SL (w0 : World) (el sz : Nat) (v : Value) (n : Nat) (xs : List Value) (own : Blks) : Prop :=
  (v = .slice none 0 0 ∧ n = 0 ∧ xs = [] ∧ own = []) ∨
  ∃ b cap rest, v = .slice (some ⟨b, 0, none⟩) n cap ∧ own = [(b, .cells ⟨xs ++ rest⟩ el (0, 0))] ∧ xs.length = n * sz ∧ rest.length = (cap - n) * sz ∧ n ≤ cap ∧ w0.heap.size ≤ b

theorem Hp.swap {w0 w : World} {L M : Blks} {p q : Nat × Obj} (H : Hp w0 w (p :: (L ++ [q] ++ M))) (hq : w0.heap.size ≤ q.1) : Hp w0 w (L ++ [p] ++ M) :=
  ⟨H.os, H.tape, H.output, H.le, fun x hx => H.has x (by simp at hx ⊢; rcases hx with h | h | h <;> simp [h]),
    fun b hb hL => H.old b hb fun x hx => by
      simp at hx
      rcases hx with rfl | h | rfl | h
      · exact hL x (by simp)
      · exact hL x (by simp [h])
      · omega
      · exact hL x (by simp [h]),
    by
      have := H.nd
      simp only [List.map_cons, List.map_append, List.map_nil, List.nodup_cons, List.nodup_append, List.mem_append, List.mem_singleton, List.mem_cons] at this ⊢
      grind⟩

theorem Hp.perm {w0 w : World} {L M : Blks} (H : Hp w0 w L) (hp : L.Perm M) : Hp w0 w M :=
  ⟨H.os, H.tape, H.output, H.le, fun x hx => H.has x (hp.mem_iff.2 hx), fun b hb hL => H.old b hb fun x hx => hL x (hp.mem_iff.1 hx), ((hp.map _).nodup_iff).1 H.nd⟩

theorem placeL_end {xs rest new : List Value} (h : new.length ≤ rest.length) : placeL (xs ++ rest) xs.length new = xs ++ new ++ rest.drop new.length := by
  unfold placeL
  rw [List.take_left', List.drop_append]
  · congr 1
    rw [List.drop_eq_nil_of_le (by omega), List.nil_append]
    congr 1; omega
  · rfl

theorem APP.own {P : Program} {t t2 el : TypeId} {d2 : TypeDesc} {sz bytes : Nat} {z : List Value} (hu : P.underlying t = some (.slice el)) (he : Elem P el sz bytes z) (hzl : z.length = sz)
    (hu2 : P.underlying t2 = some d2) (hd : isIntD d2 = false) {v : Value} {n m : Nat} {x : Value} {xs new : List Value} {w0 w : World} {L own : Blks} (hv : SL w0 el sz v n xs own)
    (hn : pureE P (Builtin.lenOf x) (fun k => k = m)) (H : Hp w0 w (L ++ own)) (hx : Cells P sz m x w new) (hnew : new.length = m * sz) (h1 : new.all oneC = true)
    (hroom : (2 * (n + m) + 192) * bytes ≤ 2 ^ 48) (hb : 0 < bytes) {K : Value → World → Prop}
    (k : ∀ v' w' own', SL w0 el sz v' (n + m) (xs ++ new) own' → Hp w0 w' (L ++ own') → K v' w') : APP P #[t, t2] [v, x] K w := by
  rcases hv with ⟨rfl, rfl, rfl, rfl⟩ | ⟨b, cap, rest, rfl, rfl, hxs, hrest, hcap, hbb⟩
  · rcases Nat.eq_zero_or_pos m with rfl | hm
    · have : new = [] := List.eq_nil_of_length_eq_zero (by omega)
      subst this
      exact APP.none hu he hu2 hd hn hx (k _ _ _ (.inl ⟨rfl, rfl, rfl, rfl⟩) H)
    · refine APP.grow hu he hu2 hd hn H (old := []) (by simpa using Cells.none) hx (by omega) hroom hb fun b w' newCap hc hbb H' => ?_
      refine k _ w' [(b, .cells ⟨new ++ zerosL z (newCap - (0 + m))⟩ el (0, 0))] (.inr ⟨b, newCap, zerosL z (newCap - (0 + m)), rfl, by simp, by simpa using hnew, by rw [zerosL_length, hzl], hc, hbb⟩) ?_
      refine H'.perm ?_
      simp only [List.append_nil, List.nil_append]
      exact (List.perm_append_comm (l₁ := [(b, _)]) (l₂ := L))
  · have hi : (L ++ [(b, Obj.cells ⟨xs ++ rest⟩ el (0, 0))])[L.length]? = some (b, Obj.cells ⟨xs ++ rest⟩ el (0, 0)) := by simp
    by_cases hg : n + m ≤ cap
    · have hlr : new.length ≤ rest.length := by rw [hnew, hrest]; exact Nat.mul_le_mul_right _ (by omega)
      refine APP.room hu he hu2 hd hn H hx hg L.length hi ?_ (by simp) h1 fun w' H' => ?_
      · simp only [List.length_append]; omega
      · rw [Nat.zero_add, ← hxs, placeL_end hlr] at H'
        refine k _ w' [(b, .cells ⟨xs ++ new ++ rest.drop new.length⟩ el (0, 0))] (.inr ⟨b, cap, rest.drop new.length, rfl, rfl, ?_, ?_, hg, hbb⟩) ?_
        · rw [List.length_append, hxs, hnew, Nat.add_mul]
        · rw [List.length_drop, hrest, hnew, ← Nat.sub_mul]; congr 1; omega
        · simpa using H'
    · refine APP.grow hu he hu2 hd hn H (old := xs) (Cells.hp H L.length hi (by rw [List.length_append, hxs]; omega) (by simp [← hxs])) hx (by omega) hroom hb fun b' w' newCap hc hbb' H' => ?_
      refine k _ w' [(b', .cells ⟨xs ++ new ++ zerosL z (newCap - (n + m))⟩ el (0, 0))] (.inr ⟨b', newCap, zerosL z (newCap - (n + m)), rfl, rfl, ?_, by rw [zerosL_length, hzl], hc, hbb'⟩) ?_
      · rw [List.length_append, hxs, hnew, Nat.add_mul]
      · have := Hp.swap (M := []) (by simpa using H') hbb
        simpa using this

theorem SL.ne {w0 : World} {el sz n : Nat} {v : Value} {xs : List Value} {own : Blks} (h : SL w0 el sz v n xs own) (hn : 0 < n) : own ≠ [] := by
  rcases h with ⟨-, h, -, -⟩ | ⟨b, cap, rest, -, h, -⟩
  · omega
  · rw [h]; simp

theorem SL.row {w0 : World} {el sz n : Nat} {v : Value} {xs : List Value} {own : Blks} (h : SL w0 el sz v n xs own) (hn : own ≠ []) :
    ∃ b cap rest, v = .slice (some ⟨b, 0, none⟩) n cap ∧ own = [(b, .cells ⟨xs ++ rest⟩ el (0, 0))] ∧ xs.length = n * sz ∧ rest.length = (cap - n) * sz ∧ n ≤ cap ∧ w0.heap.size ≤ b := by
  rcases h with ⟨-, -, -, h⟩ | h
  · exact absurd h hn
  · exact h

theorem fill_set {α : Type} {xs : List α} {z x : α} {k : Nat} (hx : xs[k]? = some x) :
    (xs.take k ++ List.replicate (xs.length - k) z).set k x = xs.take (k + 1) ++ List.replicate (xs.length - (k + 1)) z := by
  obtain ⟨hk, rfl⟩ := List.getElem?_eq_some_iff.1 hx
  have h1 : xs.length - k = (xs.length - (k + 1)) + 1 := by omega
  have h2 : (xs.take k).length = k := by rw [List.length_take]; omega
  rw [h1, List.replicate_succ, List.set_append_right _ _ (by omega), h2, Nat.sub_self, List.set_cons_zero, List.take_add_one, hx]
  simp only [Option.toList_some, List.append_assoc, List.singleton_append]

theorem zerosL_one (z : Value) : ∀ n : Nat, zerosL [z] n = List.replicate n z
  | 0 => rfl
  | n + 1 => by rw [zerosL, zerosL_one z n]; rfl

/-- A plan by the operations in a row; those of `es` act. -/
def pl (es : List Nat) : List Nat → Plan
  | [] => .done
  | i :: r => bif es.contains i then .e i (pl es r) else .q i (pl es r)

/-- Where both ways of a test meet again: what is carried on. -/
theorem IFB.cut {P : Program} {b : Bool} {pc qc rest : Code} {Q : Post} {e : Env} {ds : List Deferred} {w : World} {σ : Type} (vals : σ → List (Nat × Value)) (I : σ → World → Prop)
    (hp : b = true → codeE P pc (thenE (fun e' ds' w' => ds' = ds ∧ ∃ x, Holds e' (vals x) ∧ I x w') Q) e ds w)
    (hq : b = false → codeE P qc (thenE (fun e' ds' w' => ds' = ds ∧ ∃ x, Holds e' (vals x) ∧ I x w') Q) e ds w)
    (next : ∀ x w h, I x w → codeE P rest Q (ovl (vals x) (mix (defsOf (.seq pc qc)) h e)) ds w) :
    IFB b (codeE P pc (thenE (fun e ds w => codeE P rest Q e ds w) Q) e ds w) (codeE P qc (thenE (fun e ds w => codeE P rest Q e ds w) Q) e ds w) := by
  have := cut_rule (a := .cond (.const (.bool b)) pc qc) (b := rest) vals I (IFB.mk hp hq) next
  exact this

end Go.Bz
