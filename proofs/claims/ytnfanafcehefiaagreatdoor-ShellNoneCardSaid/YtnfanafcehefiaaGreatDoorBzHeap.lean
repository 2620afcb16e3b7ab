/- A part of the claim: see the text that holds the theorem. -/
import Derived.Test.YtnfanafcehefiaaGreatDoorBzCore
set_option linter.unusedSimpArgs false
set_option linter.unusedVariables false
/-! What is known of the world: some blocks, all else as it was. -/
namespace Go.Bz

abbrev Blks := List (Nat × Obj)

structure Hp (w0 w : World) (L : Blks) : Prop where
  os : w.os = w0.os
  tape : w.tape = w0.tape
  output : w.output = w0.output
  le : w0.heap.size ≤ w.heap.size
  has : ∀ p ∈ L, w.heap[p.1]? = some p.2
  old : ∀ b, b < w0.heap.size → (∀ p ∈ L, p.1 ≠ b) → w.heap[b]? = w0.heap[b]?
  nd : (L.map (·.1)).Nodup

theorem Hp.refl (w : World) : Hp w w [] := ⟨rfl, rfl, rfl, Nat.le_refl _, by simp, fun _ _ _ => rfl, by simp⟩

theorem heap_lt {w : World} {b : Nat} {o : Obj} (h : w.heap[b]? = some o) : b < w.heap.size := (Array.getElem?_eq_some_iff.1 h).1

theorem Hp.at {w0 w : World} {L : Blks} (H : Hp w0 w L) (i : Nat) {b : Nat} {o : Obj} (hi : L[i]? = some (b, o)) : w.heap[b]? = some o := H.has (b, o) (List.mem_of_getElem? hi)

/-- Something that is there at the start is known. -/
theorem Hp.know {w0 w : World} {L : Blks} (H : Hp w0 w L) {b : Nat} {o : Obj} (hb : w.heap[b]? = some o) (hn : ∀ p ∈ L, p.1 ≠ b) : Hp w0 w ((b, o) :: L) :=
  ⟨H.os, H.tape, H.output, H.le, fun p hp => by
      rcases List.mem_cons.1 hp with rfl | hp
      · exact hb
      · exact H.has p hp,
    fun k hk hL => H.old k hk fun p hp => hL p (by simp [hp]),
    by simp only [List.map_cons, List.nodup_cons]; exact ⟨fun hm => by obtain ⟨p, hp, he⟩ := List.mem_map.1 hm; exact hn p hp he, H.nd⟩⟩

/-- A world of which the heap is as it was. -/
theorem Hp.same {w0 w w' : World} {L : Blks} (H : Hp w0 w L) (hh : w'.heap = w.heap) (ho : w'.os = w.os) (ht : w'.tape = w.tape) (hu : w'.output = w.output) : Hp w0 w' L :=
  ⟨ho.trans H.os, ht.trans H.tape, hu.trans H.output, by rw [hh]; exact H.le, fun p hp => by rw [hh]; exact H.has p hp, fun b hb hL => by rw [hh]; exact H.old b hb hL, H.nd⟩

theorem Hp.drew {w0 w : World} {L : Blks} (H : Hp w0 w L) (n : Nat) : Hp w0 { w with drawn := n } L := H.same rfl rfl rfl rfl

/-- A new block. -/
theorem Hp.push {w0 w : World} {L : Blks} (H : Hp w0 w L) (o : Obj) : Hp w0 { w with heap := w.heap.push o } ((w.heap.size, o) :: L) := by
  refine ⟨H.os, H.tape, H.output, by simp; have := H.le; omega, fun p hp => ?_, fun b hb hL => ?_, ?_⟩
  · rcases List.mem_cons.1 hp with rfl | hp
    · simp
    · have := H.has p hp
      have hlt : p.1 < w.heap.size := heap_lt this
      simp only [Array.getElem?_push]
      rw [if_neg (by omega)]; exact this
  · have := H.le
    simp only [Array.getElem?_push]
    rw [if_neg (by omega)]
    exact H.old b hb fun p hp => hL p (by simp [hp])
  · simp only [List.map_cons, List.nodup_cons]
    refine ⟨fun hm => ?_, H.nd⟩
    obtain ⟨p, hp, he⟩ := List.mem_map.1 hm
    have := heap_lt (H.has p hp)
    omega

theorem map_set_fst {L : Blks} {i b : Nat} {o o' : Obj} (hi : L[i]? = some (b, o)) : (L.set i (b, o')).map (·.1) = L.map (·.1) := by
  apply List.ext_getElem?
  intro k
  simp only [List.map_set, List.getElem?_set, List.length_map, List.getElem?_map]
  split
  · rename_i h; subst h
    have hlt : i < L.length := (List.getElem?_eq_some_iff.1 hi).1
    rw [if_pos hlt, hi]; rfl
  · rfl

/-- One known block has become another. -/
theorem Hp.put {w0 w w' : World} {L : Blks} (H : Hp w0 w L) (i : Nat) {b : Nat} {o o' : Obj} (hi : L[i]? = some (b, o))
    (hb : w'.heap[b]? = some o') (hn : ∀ k, k ≠ b → w'.heap[k]? = w.heap[k]?) (hs : w'.heap.size = w.heap.size) (ho : w'.os = w.os) (ht : w'.tape = w.tape) (hu : w'.output = w.output) :
    Hp w0 w' (L.set i (b, o')) := by
  have hmem : ∀ p ∈ L.set i (b, o'), p = (b, o') ∨ (p ∈ L ∧ p.1 ≠ b) := by
    intro p hp
    obtain ⟨k, hk⟩ := List.mem_iff_getElem?.1 hp
    rw [List.getElem?_set] at hk
    split at hk
    · split at hk
      · simp only [Option.some.injEq] at hk; exact .inl hk.symm
      · cases hk
    · rename_i hik
      have hpL := List.mem_of_getElem? hk
      refine .inr ⟨hpL, fun he => hik ?_⟩
      have hnd := List.pairwise_iff_getElem.1 H.nd
      obtain ⟨h1l, h1⟩ := List.getElem?_eq_some_iff.1 hi
      obtain ⟨h2l, h2⟩ := List.getElem?_eq_some_iff.1 hk
      have e1 : (L.map (·.1))[i]'(by simpa using h1l) = b := by simp [h1]
      have e2 : (L.map (·.1))[k]'(by simpa using h2l) = b := by simp [h2, he]
      rcases Nat.lt_trichotomy i k with h | h | h
      · exact absurd (e1.trans e2.symm) (hnd i k (by simpa using h1l) (by simpa using h2l) h)
      · exact h
      · exact absurd (e2.trans e1.symm) (hnd k i (by simpa using h2l) (by simpa using h1l) h)
  refine ⟨ho.trans H.os, ht.trans H.tape, hu.trans H.output, by rw [hs]; exact H.le, fun p hp => ?_, fun k hk hL => ?_, by rw [map_set_fst hi]; exact H.nd⟩
  · rcases hmem p hp with rfl | ⟨hp, hne⟩
    · exact hb
    · rw [hn p.1 hne]; exact H.has p hp
  · have hkb : k ≠ b := by
      have hlt : i < L.length := (List.getElem?_eq_some_iff.1 hi).1
      intro he
      exact hL (b, o') (List.mem_of_getElem? (i := i) (by rw [List.getElem?_set_self hlt])) he.symm
    rw [hn k hkb]
    refine H.old k hk fun p hp he => ?_
    have hk' : k ∈ (L.set i (b, o')).map (·.1) := by rw [map_set_fst hi]; exact List.mem_map.2 ⟨p, hp, he⟩
    obtain ⟨q, hq, hqe⟩ := List.mem_map.1 hk'
    exact hL q hq hqe

theorem Addr.add_none (b o n : Nat) : (⟨b, o, none⟩ : Addr).add n = ⟨b, o + n, none⟩ := by
  unfold Addr.add; split
  · rename_i h; subst h; rfl
  · rfl

theorem cell_of {w : World} {b off : Nat} {c : List Value} {t : TypeId} {f : Nat × Nat} (h : w.heap[b]? = some (.cells ⟨c⟩ t f)) : w.cell? ⟨b, off, none⟩ = c[off]? := by
  simp [World.cell?, h]

theorem LD.hp {w0 w : World} {L : Blks} (H : Hp w0 w L) (i : Nat) {b off : Nat} {c : List Value} {t : TypeId} {f : Nat × Nat} {a : Addr} {v : Value} {K : Value → Prop}
    (hi : L[i]? = some (b, .cells ⟨c⟩ t f)) (ha : a = ⟨b, off, none⟩) (hv : c[off]? = some v) (k : K v) : LD w a K := by
  subst ha
  unfold LD
  exact ⟨v, by rw [cell_of (H.at i hi)]; exact hv, k⟩

/-- A load from a block that is known outright. -/
theorem LD.at {w : World} {b off : Nat} {c : List Value} {t : TypeId} {f : Nat × Nat} {a : Addr} {v : Value} {K : Value → Prop}
    (hb : w.heap[b]? = some (.cells ⟨c⟩ t f)) (ha : a = ⟨b, off, none⟩) (hv : c[off]? = some v) (k : K v) : LD w a K := by
  subst ha
  unfold LD
  exact ⟨v, by rw [cell_of hb]; exact hv, k⟩

theorem LDN.hp {w0 w : World} {L : Blks} (H : Hp w0 w L) (i : Nat) {b off n : Nat} {c : List Value} {t : TypeId} {f : Nat × Nat} {a : Addr} {K : Value → Prop}
    (hi : L[i]? = some (b, .cells ⟨c⟩ t f)) (ha : a = ⟨b, off, none⟩) (cs : List Value) (hc : (c.drop off).take n = cs) (hn : cs.length = n) (k : K (.agg ⟨cs⟩)) : LDN w a n K := by
  subst ha hc
  unfold LDN
  refine ⟨_, hn, fun j hj => ?_, k⟩
  rw [Addr.add_none, cell_of (H.at i hi), List.getElem?_take, if_pos hj, List.getElem?_drop]

theorem AL.hp {w0 w : World} {L : Blks} (H : Hp w0 w L) {o : Obj} {K : Nat → World → Prop}
    (k : ∀ b w', w0.heap.size ≤ b → Hp w0 w' ((b, o) :: L) → K b w') : AL w o K := by
  unfold AL
  exact ⟨k _ _ H.le (H.push o)⟩

theorem setCell_block {w : World} {b off : Nat} {c : List Value} {t : TypeId} {f : Nat × Nat} {v : Value} (h : w.heap[b]? = some (.cells ⟨c⟩ t f)) :
    (w.setCell ⟨b, off, none⟩ v).heap[b]? = some (.cells ⟨c.set off v⟩ t f) := by
  simp [World.setCell, Array.getElem?_modify, h]

theorem setCell_other {w : World} {a : Addr} {v : Value} {k : Nat} (h : k ≠ a.block) : (w.setCell a v).heap[k]? = w.heap[k]? := by
  simp only [World.setCell, Array.getElem?_modify]
  rw [if_neg (by omega)]

theorem ST.hp {w0 w : World} {L : Blks} (H : Hp w0 w L) (i : Nat) {b off : Nat} {c : List Value} {t : TypeId} {f : Nat × Nat} {a : Addr} {v : Value} {K : World → Prop}
    (hi : L[i]? = some (b, .cells ⟨c⟩ t f)) (ha : a = ⟨b, off, none⟩) (hoff : off < c.length) (hf : (decide (f.1 ≤ off) && decide (off < f.2)) = false) (ho : oneC v = true)
    (k : ∀ w', Hp w0 w' (L.set i (b, .cells ⟨c.set off v⟩ t f)) → K w') : ST w a v K := by
  subst ha
  have hb := H.at i hi
  unfold ST
  refine ⟨ho, ⟨c[off], by rw [cell_of hb]; exact List.getElem?_eq_getElem hoff⟩, by simp only [World.frozen?, hb]; exact hf, k _ ?_⟩
  exact H.put i hi (setCell_block hb) (fun k hk => setCell_other hk) (by simp [World.setCell]) rfl rfl rfl

theorem placeL_set {c cs : List Value} {v : Value} {o : Nat} (h : o + 1 + cs.length ≤ c.length) : placeL (c.set o v) (o + 1) cs = placeL c o (v :: cs) := by
  unfold placeL
  apply List.ext_getElem?
  intro k
  simp only [List.getElem?_append, List.length_append, List.length_take, List.length_set, List.getElem?_take, List.getElem?_drop, List.getElem?_set, List.length_cons, List.getElem?_cons]
  have e1 : min (o + 1) c.length = o + 1 := by omega
  have e2 : min o c.length = o := by omega
  rw [e1, e2]
  by_cases h1 : k < o
  · rw [if_pos (by omega), if_pos (by omega), if_pos (by omega), if_neg (by omega), if_pos (by omega), if_pos (by omega), if_pos (by omega)]
  · by_cases h2 : k = o
    · subst h2
      rw [if_pos (by omega), if_pos (by omega), if_pos (by omega), if_pos rfl, if_pos (by omega), if_pos (by omega), if_neg (by omega), if_pos (by omega)]
    · by_cases h3 : k < o + 1 + cs.length
      · rw [if_pos (by omega), if_neg (by omega), if_pos (by omega), if_neg (by omega), if_neg (by omega)]
        congr 1
      · rw [if_neg (by omega), if_neg (by omega), if_neg (by omega)]
        congr 1; omega

theorem setCells_hp {w0 : World} {b off : Nat} {t : TypeId} {f : Nat × Nat} (i : Nat) : ∀ (cs : List Value) (j : Nat) (w : World) (L : Blks) (c : List Value), Hp w0 w L → L[i]? = some (b, .cells ⟨c⟩ t f) →
    off + j + cs.length ≤ c.length → Hp w0 (setCells w ⟨b, off, none⟩ j cs) (L.set i (b, .cells ⟨placeL c (off + j) cs⟩ t f))
  | [], j, w, L, c, H, hi, hl => by
    simp only [setCells, placeL, List.append_nil, List.length_nil, Nat.add_zero, List.take_append_drop]
    have : L.set i (b, Obj.cells ⟨c⟩ t f) = L := by
      apply List.ext_getElem?; intro k; rw [List.getElem?_set]
      split
      · rename_i h; subst h; rw [if_pos (List.getElem?_eq_some_iff.1 hi).1, hi]
      · rfl
    rw [this]; exact H
  | v :: cs, j, w, L, c, H, hi, hl => by
    simp only [List.length_cons] at hl
    simp only [setCells, Addr.add_none]
    have hb := H.at i hi
    have H1 := H.put i hi (setCell_block (off := off + j) (v := v) hb) (fun k hk => setCell_other hk) (by simp [World.setCell]) rfl rfl rfl
    have hlt : i < L.length := (List.getElem?_eq_some_iff.1 hi).1
    have := setCells_hp (off := off) i cs (j + 1) _ _ (c.set (off + j) v) H1 (by rw [List.getElem?_set_self hlt]) (by simp; omega)
    rw [List.set_set] at this
    have he : placeL (c.set (off + j) v) (off + (j + 1)) cs = placeL c (off + j) (v :: cs) := by
      rw [← Nat.add_assoc]; exact placeL_set (by omega)
    rw [he] at this
    exact this

theorem STN.hp {w0 w : World} {L : Blks} (H : Hp w0 w L) (i : Nat) {b off : Nat} {c cs : List Value} {t : TypeId} {f : Nat × Nat} {a : Addr} {K : World → Prop}
    (hi : L[i]? = some (b, .cells ⟨c⟩ t f)) (ha : a = ⟨b, off, none⟩) (hoff : off + cs.length ≤ c.length) (hf : (decide (f.1 < f.2) && decide (f.1 < off + cs.length) && decide (off < f.2)) = false)
    (ho : cs.all oneC = true) (k : ∀ w', Hp w0 w' (L.set i (b, .cells ⟨placeL c off cs⟩ t f)) → K w') : STN w a cs K := by
  subst ha
  have hb := H.at i hi
  unfold STN
  refine ⟨fun v hv => List.all_eq_true.1 ho v hv, fun j hj => ?_, k _ ?_⟩
  · rw [Addr.add_none]
    refine ⟨⟨c[off + j]'(by omega), by rw [cell_of hb]; exact List.getElem?_eq_getElem _⟩, ?_⟩
    simp only [World.frozen?, hb]
    simp only [Bool.and_eq_false_iff, decide_eq_false_iff_not] at hf ⊢
    omega
  · have := setCells_hp (off := off) i cs 0 w L c H hi (by omega)
    simpa using this

/-! ### Contracts compose -/

/-- A callee that has changed nothing that is known. -/
theorem Hp.pure {w0 w w' : World} {L : Blks} (H : Hp w0 w L) (H' : Hp w w' []) : Hp w0 w' L :=
  ⟨H'.os.trans H.os, H'.tape.trans H.tape, H'.output.trans H.output, Nat.le_trans H.le H'.le,
    fun p hp => by rw [H'.old p.1 (heap_lt (H.has p hp)) (by simp)]; exact H.has p hp,
    fun b hb hL => by rw [H'.old b (Nat.lt_of_lt_of_le hb H.le) (by simp)]; exact H.old b hb hL, H.nd⟩

/-- A callee that has made blocks. -/
theorem Hp.more {w0 w w' : World} {L M : Blks} (H : Hp w0 w L) (H' : Hp w w' M) (hM : ∀ p ∈ M, w.heap.size ≤ p.1) : Hp w0 w' (M ++ L) :=
  ⟨H'.os.trans H.os, H'.tape.trans H.tape, H'.output.trans H.output, Nat.le_trans H.le H'.le,
    fun p hp => by
      rcases List.mem_append.1 hp with hp | hp
      · exact H'.has p hp
      · have hlt := heap_lt (H.has p hp)
        rw [H'.old p.1 hlt (fun q hq he => by have := hM q hq; omega)]; exact H.has p hp,
    fun b hb hL => by
      have := H.le
      rw [H'.old b (by omega) (fun q hq he => by have := hM q hq; omega)]
      exact H.old b hb fun p hp => hL p (by simp [hp]),
    by
      rw [List.map_append, List.nodup_append]
      refine ⟨H'.nd, H.nd, fun a ha b hb he => ?_⟩
      subst he
      obtain ⟨p, hp, hpe⟩ := List.mem_map.1 ha
      obtain ⟨q, hq, hqe⟩ := List.mem_map.1 hb
      have h1 := hM p hp
      have h2 := heap_lt (H.has q hq)
      omega⟩

/-- A callee that has changed one known block. -/
theorem Hp.mod {w0 w w' : World} {L : Blks} (H : Hp w0 w L) (i : Nat) {b : Nat} {o o' : Obj} (hi : L[i]? = some (b, o)) (H' : Hp w w' [(b, o')]) : Hp w0 w' (L.set i (b, o')) := by
  have hb := H.at i hi
  have hlt := heap_lt hb
  -- the world as it would be, had nothing been added
  have hb' : w'.heap[b]? = some o' := H'.has (b, o') (by simp)
  have hmem : ∀ p ∈ L.set i (b, o'), p = (b, o') ∨ (p ∈ L ∧ p.1 ≠ b) := by
    intro p hp
    have H2 : Hp w0 { w with heap := w.heap.setIfInBounds b o' } (L.set i (b, o')) :=
      H.put (o' := o') i hi (by simp [hlt]) (fun k hk => by simp only []; rw [Array.getElem?_setIfInBounds_ne (by omega)]) (by simp) rfl rfl rfl
    obtain ⟨k, hk⟩ := List.mem_iff_getElem?.1 hp
    by_cases hpb : p.1 = b
    · refine .inl ?_
      have h1 := H2.has p hp
      rw [hpb] at h1
      have h2 : ({ w with heap := w.heap.setIfInBounds b o' } : World).heap[b]? = some o' := by simp [hlt]
      rw [h2] at h1
      simp only [Option.some.injEq] at h1
      exact Prod.ext hpb h1.symm
    · refine .inr ⟨?_, hpb⟩
      rw [List.getElem?_set] at hk
      split at hk
      · split at hk
        · simp only [Option.some.injEq] at hk; exact absurd (by rw [← hk]) hpb
        · cases hk
      · exact List.mem_of_getElem? hk
  refine ⟨H'.os.trans H.os, H'.tape.trans H.tape, H'.output.trans H.output, Nat.le_trans H.le H'.le, fun p hp => ?_, fun k hk hL => ?_, by rw [map_set_fst hi]; exact H.nd⟩
  · rcases hmem p hp with rfl | ⟨hp, hne⟩
    · exact hb'
    · rw [H'.old p.1 (heap_lt (H.has p hp)) (fun q hq he => by simp only [List.mem_singleton] at hq; subst hq; exact hne he.symm)]
      exact H.has p hp
  · have hkb : k ≠ b := by
      have hltL : i < L.length := (List.getElem?_eq_some_iff.1 hi).1
      intro he
      exact hL (b, o') (List.mem_of_getElem? (i := i) (by rw [List.getElem?_set_self hltL])) he.symm
    have := H.le
    rw [H'.old k (by omega) (fun q hq he => by simp only [List.mem_singleton] at hq; subst hq; exact hkb he.symm)]
    refine H.old k hk fun p hp he => ?_
    have hk' : k ∈ (L.set i (b, o')).map (·.1) := by rw [map_set_fst hi]; exact List.mem_map.2 ⟨p, hp, he⟩
    obtain ⟨q, hq, hqe⟩ := List.mem_map.1 hk'
    exact hL q hq hqe

/-- Blocks of which nothing need be said any more, if they are new. -/
theorem Hp.drop {w0 w : World} {M L : Blks} (H : Hp w0 w (M ++ L)) (hM : ∀ p ∈ M, w0.heap.size ≤ p.1) : Hp w0 w L :=
  ⟨H.os, H.tape, H.output, H.le, fun p hp => H.has p (by simp [hp]), fun b hb hL => H.old b hb fun p hp => by
      rcases List.mem_append.1 hp with hp | hp
      · have := hM p hp; omega
      · exact hL p hp,
    by have := H.nd; rw [List.map_append, List.nodup_append] at this; exact this.2.1⟩

theorem Hp.size_le {w0 w : World} {L : Blks} (H : Hp w0 w L) : w0.heap.size ≤ w.heap.size := H.le

end Go.Bz
