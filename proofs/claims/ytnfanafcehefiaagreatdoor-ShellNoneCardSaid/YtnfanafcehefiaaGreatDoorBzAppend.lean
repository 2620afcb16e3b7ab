/- A part of the claim: see the text that holds the theorem. -/
import Derived.Test.YtnfanafcehefiaaGreatDoorBzMaps
set_option linter.unusedSimpArgs false
set_option linter.unusedVariables false
/-! append, make, ranges, conversions. -/
namespace Go.Bz

theorem readE_heap {α : Type} {P : Program} {s : Sem α} {K : α → Prop} {w w' : World} (hh : w'.heap = w.heap) (h : readE P s K w) : readE P s K w' := by
  have hc : ∀ a, w'.cell? a = w.cell? a := fun a => by simp only [World.cell?, hh]
  induction s with
  | pure a => exact h
  | load m a k ih =>
    simp only [readE, LD_def] at h ⊢
    obtain ⟨v, hv, h⟩ := h
    exact ⟨v, by rw [hc]; exact hv, ih v h⟩
  | shape r k ih =>
    simp only [readE, SH_def] at h ⊢
    have : w'.shape? r = w.shape? r := by simp only [World.shape?, hh]
    rw [this]; exact ih _ h
  | frozen a k ih =>
    simp only [readE, FZ_def] at h ⊢
    have : w'.frozen? a = w.frozen? a := by simp only [World.frozen?, hh]
    rw [this]; exact ih _ h
  | getObj r k ih =>
    simp only [readE, GO_def] at h ⊢
    obtain ⟨o, ho, hn, h⟩ := h
    exact ⟨o, by rw [hh]; exact ho, hn, ih o h⟩
  | program k ih => exact ih _ h
  | mark m k ih => exact ih h
  | _ => exact h.elim

/-- The first cells of what is appended or copied. -/
def Cells (P : Program) (sz n : Nat) (x : Value) (w : World) (cs : List Value) : Prop := readE P (Builtin.firstCells sz n x) (fun a => a = ⟨cs⟩) w

theorem loadCellsFrom_hp {P : Program} {w : World} {b o : Nat} {c : List Value} {t : TypeId} {f : Nat × Nat} (hb : w.heap[b]? = some (.cells ⟨c⟩ t f)) {K : Array Value → Prop} :
    ∀ (n i : Nat) (acc : Array Value), o + i + n ≤ c.length → K (acc ++ ⟨(c.drop (o + i)).take n⟩) → readE P (loadCellsFrom ⟨b, o, none⟩ i n acc) K w
  | 0, i, acc, _, h => by
    have : acc ++ (⟨(c.drop (o + i)).take 0⟩ : Array Value) = acc := by apply Array.ext'; simp
    rw [this] at h; exact h
  | n + 1, i, acc, hl, h => by
    unfold loadCellsFrom
    rw [readE_bind]
    show LD w _ _
    rw [LD_def]
    have hlt : o + i < c.length := by omega
    refine ⟨c[o + i], by rw [Addr.add_none, cell_of hb, List.getElem?_eq_getElem hlt], ?_⟩
    show readE P (loadCellsFrom ⟨b, o, none⟩ (i + 1) n _) K w
    refine loadCellsFrom_hp hb n (i + 1) _ (by omega) ?_
    have : (acc.push c[o + i]) ++ (⟨(c.drop (o + (i + 1))).take n⟩ : Array Value) = acc ++ ⟨(c.drop (o + i)).take (n + 1)⟩ := by
      apply Array.ext'
      simp only [Array.toList_append, Array.toList_push, List.append_assoc]
      rw [List.drop_eq_getElem_cons hlt, List.take_succ_cons]; rfl
    rw [this]; exact h

theorem Cells.hp {w0 w : World} {L : Blks} (H : Hp w0 w L) (i : Nat) {P : Program} {b o n sz len cap : Nat} {c : List Value} {t : TypeId} {f : Nat × Nat}
    (hi : L[i]? = some (b, .cells ⟨c⟩ t f)) (hl : o + n * sz ≤ c.length) {cs : List Value} (hc : (c.drop o).take (n * sz) = cs) : Cells P sz n (.slice (some ⟨b, o, none⟩) len cap) w cs := by
  unfold Cells Builtin.firstCells loadCells
  refine loadCellsFrom_hp (H.at i hi) _ 0 _ (by omega) ?_
  rw [← hc]; simp

theorem Cells.none {P : Program} {sz n len cap : Nat} {w : World} : Cells P sz n (.slice none len cap) w [] := rfl

theorem Cells.str {P : Program} {sz n : Nat} {l : List UInt8} {w : World} : Cells P sz n (.string ⟨⟨l⟩⟩) w ((l.take n).map fun b => .int .u8 b.toNat) := by
  show ((⟨⟨l⟩⟩ : ByteArray).extract 0 n).data.map _ = _
  rw [extract_mk]; apply Array.ext'; simp

theorem nextslicecap_le (n c : Nat) (h : c < n) : Builtin.nextslicecap n c ≤ 2 * n + 192 := by
  unfold Builtin.nextslicecap
  split
  · omega
  · split
    · omega
    · have : ∀ (k c : Nat), c ≤ n + (n + 768) / 4 → Builtin.growBy n k c ≤ n + (n + 768) / 4 := by
        intro k
        induction k with
        | zero => intro c h; exact h
        | succ k ih =>
          intro c h
          unfold Builtin.growBy
          split
          · exact h
          · exact ih _ (by omega)
      have := this 4 c (by omega)
      omega

theorem semE_askRoom {P : Program} {n : Nat} {K : Unit → World → Prop} {w : World} (h : K () w) : semE P (askRoom n) K w := by
  unfold askRoom
  split
  · exact h
  · exact h

theorem semE_of_read {α : Type} {P : Program} {s : Sem α} {K : α → World → Prop} {w : World} (h : readE P s (fun a => K a w) w) : semE P s K w :=
  semE_mono (fun _ _ ⟨he, hk⟩ => by rw [he]; exact hk) (readE_semE h)

theorem zeroCells_eq (z : Array Value) (n : Nat) : Builtin.zeroCells z n = ⟨zerosL z.toList n⟩ := by
  unfold Builtin.zeroCells
  rw [zerosL_eq]

/-- The element's row of the table of types. -/
structure Elem (P : Program) (el : TypeId) (sz bytes : Nat) (z : List Value) : Prop where
  info : ∃ i v, P.info? el = some i ∧ i.size = sz ∧ i.bytes = bytes ∧ i.zero = some v ∧ cellsL v = z

def isIntD : TypeDesc → Bool
  | .int _ => true
  | _ => false

theorem Elem.size {P : Program} {el : TypeId} {sz bytes : Nat} {z : List Value} (he : Elem P el sz bytes z) : sizeB P el = some sz := by
  obtain ⟨i, v, hi, hs, -⟩ := he.info; simp [sizeB, hi, hs]

theorem semE_zero {P : Program} {t : TypeId} {v : Value} {i : TypeInfo} (hi : P.info? t = some i) (hz : i.zero = some v) {K : Value → World → Prop} {w : World} : semE P (zeroValue t) K w = K v w := by
  show semE P (typeInfo t >>= fun i => match i.zero with | some v => pure v | none => unsupported (.resourceLimit "a value of more than 2^22 cells")) K w = _
  rw [semE_bind, semE_typeInfo hi]
  show semE P (match i.zero with | some v => pure v | none => _) K w = _
  rw [hz]; rfl

theorem APP.grow {P : Program} {t t2 el : TypeId} {d2 : TypeDesc} {sz bytes : Nat} {z : List Value} (hu : P.underlying t = some (.slice el)) (he : Elem P el sz bytes z)
    (hu2 : P.underlying t2 = some d2) (hd : isIntD d2 = false) {base : Option Addr} {sLen sCap n : Nat} {x : Value} (hn : pureE P (Builtin.lenOf x) (fun k => k = n)) {w0 w : World} {L : Blks} (H : Hp w0 w L)
    {old new : List Value} (ho : Cells P sz sLen (.slice base sLen sCap) w old) (hx : Cells P sz n x w new) (hg : sCap < sLen + n) (hroom : (2 * (sLen + n) + 192) * bytes ≤ 2 ^ 48) (hb : 0 < bytes)
    {K : Value → World → Prop}
    (k : ∀ b w' newCap, sLen + n ≤ newCap → w0.heap.size ≤ b → Hp w0 w' ((b, .cells ⟨old ++ new ++ zerosL z (newCap - (sLen + n))⟩ el (0, 0)) :: L) → K (.slice (some ⟨b, 0, none⟩) (sLen + n) newCap) w') :
    APP P #[t, t2] [.slice base sLen sCap, x] K w := by
  obtain ⟨i, zv, hi, rfl, rfl, hz, rfl⟩ := he.info
  rw [APP_def]
  unfold Builtin.append_
  show semE P (underlying t >>= _) K w
  rw [semE_bind, semE_underlying hu]
  show semE P (sizeOf el >>= _) K w
  rw [semE_bind, semE_sizeOf he.size]
  show semE P (underlying t2 >>= _) K w
  rw [semE_bind, semE_underlying hu2]
  show semE P (pure (isIntD d2) >>= _) K w
  rw [hd, semE_bind]
  show semE P (Builtin.lenOf x >>= _) K w
  rw [semE_bind]
  refine semE_of_pure (pureE_mono (fun m hm => ?_) hn)
  subst hm
  dsimp only
  rw [if_neg (by omega)]
  show semE P (typeInfo el >>= _) K w
  rw [semE_bind, semE_typeInfo hi]
  rw [if_neg (by simp; omega)]
  show semE P (typeInfo el >>= _) K w
  rw [semE_bind, semE_typeInfo hi]
  have hle : Builtin.nextslicecap (sLen + m) sCap * i.bytes ≤ 2 ^ 48 := Nat.le_trans (Nat.mul_le_mul_right _ (nextslicecap_le _ _ hg)) hroom
  rw [if_neg (by omega)]
  show semE P (choose _ >>= _) K w
  rw [semE_bind]
  show CH w _ _
  rw [CH_def, if_neg (by simp [Question.forced])]
  intro tt
  have hcap : sLen + m ≤ (Question.appendCap (sLen + m) sCap el).cut tt := by simp only [Question.cut]; omega
  generalize (Question.appendCap (sLen + m) sCap el).cut tt = newCap at hcap
  show semE P (typeInfo el >>= _) K _
  rw [semE_bind, semE_typeInfo hi, semE_bind]
  refine semE_askRoom ?_
  rw [semE_bind]
  refine semE_of_read (readE_heap (w := w) rfl (readE_mono (fun a ha => ?_) ho))
  subst ha
  show semE P (Builtin.firstCells _ _ _ >>= _) K _
  rw [semE_bind]
  refine semE_of_read (readE_heap (w := w) rfl (readE_mono (fun a ha => ?_) hx))
  subst ha
  rw [semE_bind, semE_zero hi hz]
  show AL _ _ _
  refine AL.hp (H.drew _) fun b w' hbb H' => ?_
  have harr : ((⟨old⟩ : Array Value) ++ ⟨new⟩ ++ Builtin.zeroCells zv.cells (newCap - (sLen + m))) = ⟨old ++ new ++ zerosL (cellsL zv) (newCap - (sLen + m))⟩ := by
    apply Array.ext'; rw [zeroCells_eq, cellsL_eq]; simp
  rw [harr] at H'
  exact k b w' newCap hcap hbb H'

theorem storeCells_hp {P : Program} {w0 : World} {b o : Nat} {t : TypeId} {f : Nat × Nat} (i : Nat) : ∀ (cs : List Value) (j : Nat) (w : World) (L : Blks) (c : List Value), Hp w0 w L → L[i]? = some (b, .cells ⟨c⟩ t f) →
    o + j + cs.length ≤ c.length → (decide (f.1 < f.2) && decide (f.1 < o + j + cs.length) && decide (o + j < f.2)) = false → cs.all oneC = true → ∀ {K : Unit → World → Prop},
    (∀ w', Hp w0 w' (L.set i (b, .cells ⟨placeL c (o + j) cs⟩ t f)) → K () w') → semE P (storeCells ⟨b, o, none⟩ cs j) K w
  | [], j, w, L, c, H, hi, hl, hf, ho, K, k => by
    refine k w ?_
    simp only [placeL, List.append_nil, List.length_nil, Nat.add_zero, List.take_append_drop]
    have : L.set i (b, Obj.cells ⟨c⟩ t f) = L := by
      apply List.ext_getElem?; intro n; rw [List.getElem?_set]
      split
      · rename_i h; subst h; rw [if_pos (List.getElem?_eq_some_iff.1 hi).1, hi]
      · rfl
    rw [this]; exact H
  | v :: cs, j, w, L, c, H, hi, hl, hf, ho, K, k => by
    simp only [List.length_cons] at hl hf
    simp only [List.all_cons, Bool.and_eq_true] at ho
    unfold storeCells
    rw [semE_bind]
    show ST w _ v _
    rw [Addr.add_none]
    have hlt : i < L.length := (List.getElem?_eq_some_iff.1 hi).1
    refine ST.hp H i hi rfl (by omega) ?_ ho.1 fun w1 H1 => ?_
    · simp only [Bool.and_eq_false_iff, decide_eq_false_iff_not] at hf ⊢; omega
    refine storeCells_hp i cs (j + 1) w1 _ (c.set (o + j) v) H1 (by rw [List.getElem?_set_self hlt]) (by simp; omega) ?_ ho.2 fun w' H' => k w' ?_
    · simp only [Bool.and_eq_false_iff, decide_eq_false_iff_not] at hf ⊢; omega
    rw [List.set_set] at H'
    have he : placeL (c.set (o + j) v) (o + (j + 1)) cs = placeL c (o + j) (v :: cs) := by
      rw [← Nat.add_assoc]; exact placeL_set (by omega)
    rw [he] at H'; exact H'

/-- Append with room: the cells behind the length are written. -/
theorem APP.room {P : Program} {t t2 el : TypeId} {d2 : TypeDesc} {sz bytes : Nat} {z : List Value} (hu : P.underlying t = some (.slice el)) (he : Elem P el sz bytes z)
    (hu2 : P.underlying t2 = some d2) (hd : isIntD d2 = false) {b o sLen sCap n : Nat} {x : Value} (hn : pureE P (Builtin.lenOf x) (fun k => k = n)) {w0 w : World} {L : Blks} (H : Hp w0 w L)
    {new : List Value} (hx : Cells P sz n x w new) (hg : sLen + n ≤ sCap) (i : Nat) {c : List Value} {bt : TypeId} {f : Nat × Nat} (hi : L[i]? = some (b, .cells ⟨c⟩ bt f))
    (hl : o + sLen * sz + new.length ≤ c.length) (hf : (decide (f.1 < f.2) && decide (f.1 < o + sLen * sz + new.length) && decide (o + sLen * sz < f.2)) = false) (h1 : new.all oneC = true)
    {K : Value → World → Prop}
    (k : ∀ w', Hp w0 w' (L.set i (b, .cells ⟨placeL c (o + sLen * sz) new⟩ bt f)) → K (.slice (some ⟨b, o, none⟩) (sLen + n) sCap) w') :
    APP P #[t, t2] [.slice (some ⟨b, o, none⟩) sLen sCap, x] K w := by
  obtain ⟨it, zv, hit, rfl, rfl, hz, rfl⟩ := he.info
  rw [APP_def]
  unfold Builtin.append_
  show semE P (underlying t >>= _) K w
  rw [semE_bind, semE_underlying hu]
  show semE P (sizeOf el >>= _) K w
  rw [semE_bind, semE_sizeOf he.size]
  show semE P (underlying t2 >>= _) K w
  rw [semE_bind, semE_underlying hu2]
  show semE P (pure (isIntD d2) >>= _) K w
  rw [hd, semE_bind]
  show semE P (Builtin.lenOf x >>= _) K w
  rw [semE_bind]
  refine semE_of_pure (pureE_mono (fun m hm => ?_) hn)
  subst hm
  dsimp only
  rw [if_pos hg]
  show semE P (Builtin.firstCells _ _ _ >>= _) K _
  rw [semE_bind]
  refine semE_of_read (readE_mono (fun a ha => ?_) hx)
  subst ha
  dsimp only
  rw [Addr.add_none, semE_bind]
  refine storeCells_hp (o := o + sLen * it.size) i new 0 w L c H hi (by omega) (by simpa using hf) h1 fun w' H' => ?_
  exact k w' (by simpa using H')

/-- Nothing appended to nothing. -/
theorem APP.none {P : Program} {t t2 el : TypeId} {d2 : TypeDesc} {sz bytes : Nat} {z : List Value} (hu : P.underlying t = some (.slice el)) (he : Elem P el sz bytes z)
    (hu2 : P.underlying t2 = some d2) (hd : isIntD d2 = false) {x : Value} (hn : pureE P (Builtin.lenOf x) (fun k => k = 0)) {w : World} {new : List Value} (hx : Cells P sz 0 x w new)
    {K : Value → World → Prop} (k : K (.slice none 0 0) w) : APP P #[t, t2] [.slice none 0 0, x] K w := by
  obtain ⟨it, zv, hit, rfl, rfl, hz, rfl⟩ := he.info
  rw [APP_def]
  unfold Builtin.append_
  show semE P (underlying t >>= _) K w
  rw [semE_bind, semE_underlying hu]
  show semE P (sizeOf el >>= _) K w
  rw [semE_bind, semE_sizeOf he.size]
  show semE P (underlying t2 >>= _) K w
  rw [semE_bind, semE_underlying hu2]
  show semE P (pure (isIntD d2) >>= _) K w
  rw [hd, semE_bind]
  show semE P (Builtin.lenOf x >>= _) K w
  rw [semE_bind]
  refine semE_of_pure (pureE_mono (fun m hm => ?_) hn)
  subst hm
  dsimp only
  rw [if_pos (by omega)]
  show semE P (Builtin.firstCells _ _ _ >>= _) K _
  rw [semE_bind]
  refine semE_of_read (readE_mono (fun a ha => ?_) hx)
  exact k

theorem wrap_i64 {n : Int} (h1 : -9223372036854775808 ≤ n) (h2 : n ≤ 9223372036854775807) : IntKind.i64.wrap n = n := by
  rw [IntKind.wrap_i64]; omega

theorem MKS.hp {P : Program} {t el : TypeId} {sz bytes : Nat} {z : List Value} (hu : P.underlying t = some (.slice el)) (he : Elem P el sz bytes z) (hz : z.length = sz) {kl kc : IntKind} {l c : Nat}
    (hlc : l ≤ c) (hc : c * bytes ≤ 2 ^ 48) (hb : 0 < bytes) {w0 w : World} {L : Blks} (H : Hp w0 w L) {K : Value → World → Prop}
    (k : ∀ b w', w0.heap.size ≤ b → Hp w0 w' ((b, .cells ⟨zerosL z c⟩ el (0, 0)) :: L) → K (.slice (some ⟨b, 0, none⟩) l c) w') : MKS P t (.int kl l) (.int kc c) K w := by
  obtain ⟨it, zv, hit, rfl, rfl, hz0, rfl⟩ := he.info
  have hcb : c ≤ 2 ^ 48 := Nat.le_trans (Nat.le_mul_of_pos_right c hb) hc
  rw [MKS_def]
  unfold Instr.makeSlice
  rw [semE_bind, semE_underlying hu]
  show semE P (asInt (.int kl l) >>= _) K w
  rw [semE_bind]
  show semE P (asInt (.int kc c) >>= _) K w
  rw [semE_bind]
  show semE P (typeInfo el >>= _) K w
  rw [semE_bind, semE_typeInfo hit]
  have w1 : IntKind.i64.wrap (l : Int) = l := wrap_i64 (by omega) (by omega)
  have w2 : IntKind.i64.wrap (c : Int) = c := wrap_i64 (by omega) (by omega)
  dsimp only
  rw [w1, w2]
  have hcond : ((decide ((c : Int) < 0) || decide ((it.bytes : Int) * c > 2 ^ 48)) || decide ((l : Int) < 0) || decide ((l : Int) > c)) = false := by
    have : (it.bytes : Int) * c ≤ 2 ^ 48 := by
      have h' : ((c * it.bytes : Nat) : Int) ≤ 2 ^ 48 := by exact_mod_cast hc
      rw [Nat.mul_comm] at h'; push_cast at h'; exact h'
    simp only [Bool.or_eq_false_iff, decide_eq_false_iff_not]
    refine ⟨⟨⟨by omega, by omega⟩, by omega⟩, by omega⟩
  rw [hcond]
  simp only [Bool.false_eq_true, if_false]
  rw [semE_bind]
  refine semE_askRoom ?_
  rw [semE_bind, semE_sizeOf he.size]
  have tail : ∀ (zz : Array Value) , (⟨zerosL (cellsL zv) c⟩ : Array Value) = (Array.range (c * it.size)).map (fun j => zz[j % zz.size]!) →
      semE P (newRow el ((Array.range ((c : Int).toNat * it.size)).map (fun j => zz[j % zz.size]!)) >>= fun a => pure (Value.slice (some a) (l : Int).toNat (c : Int).toNat)) K w := by
    intro zz hzz
    rw [show ((c : Int).toNat) = c from rfl, show ((l : Int).toNat) = l from rfl, ← hzz]
    show AL _ _ _
    exact AL.hp H fun b w' hbb H' => k b w' hbb H'
  by_cases h0 : c * it.size = 0
  · rw [if_pos (by simpa using h0)]
    show semE P (newRow el ((Array.range ((c : Int).toNat * it.size)).map (fun j => (#[] : Array Value)[j % (#[] : Array Value).size]!)) >>= _) K w
    refine tail #[] ?_
    have hz' : zerosL (cellsL zv) c = [] := List.eq_nil_of_length_eq_zero (by rw [zerosL_length, hz]; exact h0)
    rw [hz', h0]; simp
  · rw [if_neg (by simpa using h0)]
    rw [semE_bind, semE_zero hit hz0]
    refine tail zv.cells ?_
    have he := zerosL_eq zv.cells c
    have hsz : zv.cells.size = it.size := by rw [← Array.length_toList, cellsL_eq]; exact hz
    rw [cellsL_eq, hsz] at he
    rw [he, hsz]

end Go.Bz
