/- A part of the claim: see the text that holds the theorem. -/
import Derived.Test.YtnfanafcehefiaaGreatDoorSn1
set_option linter.unusedSimpArgs false
set_option linter.unusedVariables false
namespace Go.Proofs
open Go Go.Bz
set_option maxRecDepth 100000
set_option maxHeartbeats 400000

def spansGo : List UInt8 → Nat → Int → List (Nat × Nat) × Int
  | [], _, s => ([], s)
  | c :: r, pos, s =>
    if c = 32 then
      if 0 ≤ s then ((s.toNat, pos) :: (spansGo r (pos + 1) (-s - 1)).1, (spansGo r (pos + 1) (-s - 1)).2) else spansGo r (pos + 1) s
    else if s < 0 then spansGo r (pos + 1) pos else spansGo r (pos + 1) s

theorem spansGo_ok (r : List UInt8) : ∀ (pos : Nat) (s : Int), s ≤ pos → (∀ p ∈ (spansGo r pos s).1, p.1 ≤ p.2 ∧ p.2 ≤ pos + r.length) ∧ (spansGo r pos s).2 ≤ pos + r.length := by
  induction r with
  | nil => intro pos s h; simp [spansGo]; omega
  | cons c r ih =>
    intro pos s h
    simp only [spansGo, List.length_cons]
    split
    · split
      · have := ih (pos + 1) (-s - 1) (by omega)
        refine ⟨fun p hp => ?_, by have := this.2; push_cast at this ⊢; omega⟩
        rcases List.mem_cons.1 hp with rfl | hp
        · dsimp only; omega
        · have := this.1 p hp; omega
      · have := ih (pos + 1) s (by omega)
        exact ⟨fun p hp => by have := this.1 p hp; omega, by have := this.2; push_cast at this ⊢; omega⟩
    · split
      · have := ih (pos + 1) pos (by omega)
        exact ⟨fun p hp => by have := this.1 p hp; omega, by have := this.2; push_cast at this ⊢; omega⟩
      · have := ih (pos + 1) s (by omega)
        exact ⟨fun p hp => by have := this.1 p hp; omega, by have := this.2; push_cast at this ⊢; omega⟩

def spans (l : List UInt8) : List (Nat × Nat) :=
  (spansGo l 0 (-1)).1 ++ if 0 ≤ (spansGo l 0 (-1)).2 then [((spansGo l 0 (-1)).2.toNat, l.length)] else []

def fields (l : List UInt8) : List (List UInt8) := (spans l).map fun p => (l.drop p.1).take (p.2 - p.1)

def spanCells (ps : List (Nat × Nat)) : List Value := ps.flatMap fun p => [i64 p.1, i64 p.2]

theorem spans_elem : Elem Tryz.prog 51 2 16 [i64 0, i64 0] := ⟨_, _, rfl, rfl, rfl, rfl, rfl⟩
theorem str_elem : Elem Tryz.prog 9 1 16 [str []] := ⟨_, _, rfl, rfl, rfl, rfl, rfl⟩

theorem spansGo_len (r : List UInt8) : ∀ (pos : Nat) (s : Int), (spansGo r pos s).1.length ≤ r.length := by
  induction r with
  | nil => intro pos s; simp [spansGo]
  | cons c r ih =>
    intro pos s
    simp only [spansGo, List.length_cons]
    split
    · split
      · have := ih (pos + 1) (-s - 1); simp only [List.length_cons]; omega
      · have := ih (pos + 1) s; omega
    · split
      · have := ih (pos + 1) pos; omega
      · have := ih (pos + 1) s; omega

theorem spans_len (l : List UInt8) : (spans l).length ≤ l.length + 1 := by
  have := spansGo_len l 0 (-1)
  unfold spans
  rw [List.length_append]
  split <;> simp <;> omega

theorem spans_ok (l : List UInt8) : ∀ p ∈ spans l, p.1 ≤ p.2 ∧ p.2 ≤ l.length := by
  intro p hp
  have := spansGo_ok l 0 (-1) (by omega)
  rcases List.mem_append.1 hp with hp | hp
  · have := this.1 p hp; omega
  · split at hp
    · simp only [List.mem_singleton] at hp
      subst hp
      have := this.2
      dsimp only
      omega
    · simp at hp

theorem spanCells_at {ps : List (Nat × Nat)} {rest : List Value} : ∀ {k a b : Nat}, ps[k]? = some (a, b) → ((spanCells ps ++ rest).drop (k * 2)).take 2 = [i64 a, i64 b] := by
  induction ps with
  | nil => intro k a b h; simp at h
  | cons p ps ih =>
    intro k a b h
    cases k with
    | zero => simp at h; subst h; rfl
    | succ k =>
      have := ih (k := k) (by simpa using h)
      rw [Nat.add_mul]
      simpa [spanCells] using this

theorem not_i64 {s : Int} (h0 : 0 ≤ s) (h1 : s < 9223372036854775808) :
    IntKind.i64.wrap ((BitVec.ofInt 64 (-1) ^^^ BitVec.ofInt 64 s).toNat : Nat) = -s - 1 := by
  have h : (BitVec.ofInt 64 (-1) ^^^ BitVec.ofInt 64 s) = ~~~ BitVec.ofInt 64 s := by
    rw [show BitVec.ofInt 64 (-1) = BitVec.allOnes 64 from rfl, BitVec.allOnes_xor]
  have h2 : (BitVec.ofInt 64 s).toNat = s.toNat := by
    rw [BitVec.toNat_ofInt]; omega
  rw [h, BitVec.toNat_not, h2, IntKind.wrap_i64]
  omega

theorem fields_ct (l : List UInt8) (hl : l.length ≤ 65536) (ha : ∀ c ∈ l, c.toNat < 128) (w : World) :
    Ct Tryz.prog 8 #[str l, fnv 9 #[] #[]] w fun v w' => ∃ b, v = .slice (some ⟨b, 0, none⟩) (fields l).length (fields l).length ∧
      Hp w w' [(b, .cells ⟨(fields l).map str⟩ 9 (0, 0))] ∧ w.heap.size ≤ b := by
  refine Ct.of_code mx Tryz.func8 rfl (by kernel_rfl) rfl (by kernel_rfl) ?_
  refine MKS.hp rfl spans_elem rfl (l := 0) (c := 32) (by decide) (by decide) (by decide) (Hp.refl w) fun b1 w1 h1 H => ?_
  refine RNG.str rfl H fun b2 w2 h2 H => ?_
  refine LOOP.rule (fun x : Nat × Value × Int × List (Nat × Nat) × Blks => [(5, x.2.1), (6, i64 x.2.2.1)])
    (fun x w' => Hp w w' ([(b2, .stringIter ⟨⟨l⟩⟩ x.1)] ++ x.2.2.2.2) ∧ SL w 51 2 x.2.1 x.2.2.2.1.length (spanCells x.2.2.2.1) x.2.2.2.2 ∧ x.2.2.2.2 ≠ [] ∧
      x.1 ≤ l.length ∧ x.2.2.1 ≤ x.1 ∧ -65540 ≤ x.2.2.1 ∧ x.2.2.2.1.length ≤ x.1 ∧ x.2.2.2.1 ++ (spansGo (l.drop x.1) x.1 x.2.2.1).1 = (spansGo l 0 (-1)).1 ∧ (spansGo (l.drop x.1) x.1 x.2.2.1).2 = (spansGo l 0 (-1)).2)
    (fun x => l.length - x.1) (0, .slice (some ⟨b1, 0, none⟩) 0 32, -1, [], [(b1, .cells ⟨zerosL [i64 0, i64 0] 32⟩ 51 (0, 0))]) ⟨rfl, rfl, trivial⟩ ?_ ?_
  · refine ⟨H, .inr ⟨b1, 32, _, rfl, rfl, rfl, rfl, Nat.zero_le _, h1⟩, by simp, by simp, by simp, by simp, by simp, by simp, by simp⟩
  · rintro ⟨pos, sv, s, acc, own⟩ w3 hh ⟨H, hSL, hne, hpos, hs, hs', hacc, hgo, hgo2⟩
    dsimp only at H hSL hne hpos hs hs' hacc hgo hgo2
    rcases Nat.lt_or_ge pos l.length with hlt | hge
    · have hc : l[pos]? = some l[pos] := List.getElem?_eq_getElem hlt
      have hdrop : l.drop pos = l[pos] :: l.drop (pos + 1) := List.drop_eq_getElem_cons hlt
      refine NXT.step H 0 rfl hc (ha _ (List.getElem_mem hlt)) fun w4 H => ?_
      refine CALLW.ct (space_ct _ _) fun v w5 hv => ?_
      obtain ⟨rfl, H5⟩ := hv
      have H : Hp w w5 _ := H.pure H5
      refine IFB.mk (fun hb => ?_) (fun hb => ?_)
      · have hc32 : l[pos] = 32 := by
          have : ((l[pos].toNat : Nat) : Int) = 32 := by simpa using hb
          have h' : l[pos].toNat = 32 := by omega
          exact UInt8.toNat_inj.1 h'
        refine IFB.mk (fun hb => ?_) (fun hb => ?_)
        · have h0 : 0 ≤ s := by simpa using hb
          refine AL.hp H fun b3 w6 h3 H => ?_
          have H : Hp w w6 ([(b3, .cells ⟨[i64 s, i64 pos]⟩ 51 (0, 0)), (b2, .stringIter ⟨⟨l⟩⟩ (pos + 1))] ++ own) := H
          refine APP.own (L := [(b3, _), (b2, _)]) rfl spans_elem rfl rfl rfl hSL (x := .slice (some ⟨b3, 0, none⟩) 1 1) (m := 1) rfl H (Cells.hp H 0 rfl (Nat.le_refl _) rfl) rfl rfl ?_ (by decide) fun v' w7 own' hSL H => ?_
          · have := hacc; omega
          refine ⟨rfl, ⟨(pos + 1, v', -s - 1, acc ++ [(s.toNat, pos)], own'), ⟨rfl, ?_, trivial⟩, ⟨Hp.drop (M := [_]) H (by simp [h3]), ?_, hSL.ne (by omega), ?_, ?_, ?_, ?_, ?_, ?_⟩, ?_⟩⟩
          · exact congrArg i64 (not_i64 (s := s) h0 (by omega))
          · simpa [spanCells, Int.toNat_of_nonneg h0] using hSL
          · exact hlt
          · dsimp only; omega
          · dsimp only; omega
          · simp; omega
          · rw [hdrop, spansGo, if_pos hc32, if_pos h0] at hgo
            simpa using hgo
          · rw [hdrop, spansGo, if_pos hc32, if_pos h0] at hgo2
            exact hgo2
          · dsimp only; omega
        · have h0 : s < 0 := by simpa using hb
          rw [hdrop, spansGo, if_pos hc32, if_neg (by omega)] at hgo hgo2
          exact ⟨rfl, ⟨(pos + 1, sv, s, acc, own), ⟨rfl, rfl, trivial⟩, ⟨H, hSL, hne, hlt, by dsimp only; omega, hs', by dsimp only; omega, hgo, hgo2⟩, by dsimp only; omega⟩⟩
      · have hc32 : l[pos] ≠ 32 := by
          intro h; rw [h] at hb; revert hb; decide
        refine IFB.mk (fun hb => ?_) (fun hb => ?_)
        · have h0 : s < 0 := by simpa using hb
          rw [hdrop, spansGo, if_neg hc32, if_pos h0] at hgo hgo2
          exact ⟨rfl, ⟨(pos + 1, sv, pos, acc, own), ⟨rfl, rfl, trivial⟩, ⟨H, hSL, hne, hlt, by dsimp only; omega, by dsimp only; omega, by dsimp only; omega, hgo, hgo2⟩, by dsimp only; omega⟩⟩
        · have h0 : 0 ≤ s := by simpa using hb
          rw [hdrop, spansGo, if_neg hc32, if_neg (by omega)] at hgo hgo2
          exact ⟨rfl, ⟨(pos + 1, sv, s, acc, own), ⟨rfl, rfl, trivial⟩, ⟨H, hSL, hne, hlt, by dsimp only; omega, hs', by dsimp only; omega, hgo, hgo2⟩, by dsimp only; omega⟩⟩
    · refine NXT.over H 0 rfl hge ?_
      rw [List.drop_eq_nil_of_le hge, spansGo] at hgo hgo2
      rw [List.append_nil] at hgo
      dsimp only at hgo2
      refine IFB.cut (fun x : Value × Blks => [(5, x.1)]) (fun x w' => Hp w w' ([(b2, .stringIter ⟨⟨l⟩⟩ pos)] ++ x.2) ∧ SL w 51 2 x.1 (spans l).length (spanCells (spans l)) x.2 ∧ x.2 ≠ []) (fun hb => ?_) (fun hb => ?_) ?_
      · have h0 : 0 ≤ s := by simpa using hb
        refine AL.hp H fun b3 w6 h3 H => ?_
        have H : Hp w w6 ([(b3, .cells ⟨[i64 s, i64 l.length]⟩ 51 (0, 0)), (b2, .stringIter ⟨⟨l⟩⟩ pos)] ++ own) := H
        refine APP.own (L := [(b3, _), (b2, _)]) rfl spans_elem rfl rfl rfl hSL (x := .slice (some ⟨b3, 0, none⟩) 1 1) (m := 1) rfl H (Cells.hp H 0 rfl (Nat.le_refl _) rfl) rfl rfl ?_ (by decide) fun v' w7 own' hSL H => ?_
        · have := hacc; omega
        refine ⟨rfl, ⟨(v', own'), ⟨rfl, trivial⟩, Hp.drop (M := [_]) H (by simp [h3]), ?_, hSL.ne (by omega)⟩⟩
        have : spans l = acc ++ [(s.toNat, l.length)] := by rw [spans, ← hgo, ← hgo2, if_pos h0]
        rw [this]
        simpa [spanCells, Int.toNat_of_nonneg h0] using hSL
      · have h0 : s < 0 := by simpa using hb
        have : spans l = acc := by rw [spans, ← hgo, ← hgo2, if_neg (by omega), List.append_nil]
        exact ⟨rfl, (sv, own), ⟨rfl, trivial⟩, H, this ▸ hSL, hne⟩
      · rintro ⟨sv, own⟩ w4 h' ⟨H, hSL, hne⟩
        dsimp only at H hSL hne
        obtain ⟨b4, cap, rest, rfl, rfl, hxs, hrest, hcap, hb4⟩ := hSL.row hne
        refine MKS.hp rfl str_elem rfl (l := (spans l).length) (c := (spans l).length) (Nat.le_refl _) ?_ (by decide) H fun b5 w5 h5 H => ?_
        · have := spans_len l; omega
        refine LOOP.rule (fun k : Nat => [(49, i64 k)])
          (fun k w' => Hp w w' [(b5, .cells ⟨((fields l).take k).map str ++ List.replicate ((spans l).length - k) (str [])⟩ 9 (0, 0)), (b4, .cells ⟨spanCells (spans l) ++ rest⟩ 51 (0, 0))] ∧ k ≤ (spans l).length)
          (fun k => (spans l).length - k) 0 ⟨rfl, trivial⟩ ?_ ?_
        · have H := Hp.drop (M := [(b2, _)]) (H.perm (M := [(b2, _), (b5, _), (b4, _)]) (List.Perm.swap ..)) (by simp [h2])
          rw [zerosL_one] at H
          exact ⟨H, Nat.zero_le _⟩
        · rintro k w6 hh6 ⟨H, hk⟩
          refine IFB.mk (fun hb => ?_) (fun hb => ?_)
          · have hlt : k < (spans l).length := by simpa using hb
            obtain ⟨p, hp⟩ : ∃ p, (spans l)[k]? = some p := ⟨_, List.getElem?_eq_getElem hlt⟩
            have hfl : (fields l).length = (spans l).length := by simp [fields]
            have hpl := spans_ok l p (List.mem_of_getElem? hp)
            refine IXA.slice rfl rfl (n := k) ⟨by omega, by exact_mod_cast hlt⟩ ?_
            refine LDN.hp H 1 rfl rfl [i64 p.1, i64 p.2] ?_ rfl ?_
            · rw [Nat.zero_add]; exact spanCells_at hp
            refine AL.hp H fun b6 w7 h6 H => ?_
            have H : Hp w w7 ([(b6, .cells ⟨[i64 0, i64 0]⟩ 51 (0, 0))] ++ _) := H
            refine ⟨rfl, STN.hp H 0 (off := 0) (cs := [i64 p.1, i64 p.2]) rfl rfl (Nat.le_refl _) rfl rfl fun w8 H => ?_⟩
            have H : Hp w w8 ([(b6, .cells ⟨[i64 p.1, i64 p.2]⟩ 51 (0, 0))] ++ _) := H
            refine LD.hp H 0 rfl rfl rfl ?_
            refine LD.hp H 0 rfl rfl rfl ?_
            refine SLC.str rfl (a := p.1) (b := p.2) ⟨rfl, ⟨_, rfl⟩, ⟨_, rfl⟩, hpl.1, hpl.2, Nat.le_refl _⟩ ?_
            refine IXA.slice rfl rfl (n := k) (sz := 1) ⟨by omega, by exact_mod_cast hlt⟩ ?_
            refine ⟨rfl, ST.hp H 1 (off := k) (v := str ((l.drop p.1).take (p.2 - p.1))) rfl ?_ ?_ rfl rfl fun w9 H => ?_⟩
            · show (⟨b5, 0 + (k : Int).toNat * 1, none⟩ : Addr) = _
              simp
            · rw [List.length_append, List.length_map, List.length_take, List.length_replicate, hfl]; omega
            have hf : (fields l)[k]? = some ((l.drop p.1).take (p.2 - p.1)) := by rw [fields, List.getElem?_map, hp]; rfl
            refine ⟨rfl, k + 1, ⟨congrArg i64 (wrap_i64 (n := (k : Int) + 1) ?_ ?_), trivial⟩, ⟨?_, hlt⟩, ?_⟩
            · omega
            · have := spans_len l; omega
            · have H := Hp.drop (M := [(b6, _)]) H (by simp [h6])
              have key := fill_set (xs := (fields l).map str) (z := str []) (k := k) (x := str ((l.drop p.1).take (p.2 - p.1))) (by rw [List.getElem?_map, hf]; rfl)
              rw [List.length_map, hfl, ← List.map_take, ← List.map_take] at key
              rw [← key]
              exact H
            · omega
          · have hge : ¬ k < (spans l).length := by simpa using hb
            have hk' : k = (spans l).length := by omega
            subst hk'
            have hfl : (fields l).length = (spans l).length := by simp [fields]
            refine ⟨b5, ?_, ?_, h5⟩
            · rw [hfl]; rfl
            · rw [Nat.sub_self, List.replicate_zero, List.append_nil, ← hfl, List.take_length] at H
              exact Hp.drop (M := [(b4, _)]) (H.perm (List.Perm.swap ..)) (by simp [hb4])
end Go.Proofs
