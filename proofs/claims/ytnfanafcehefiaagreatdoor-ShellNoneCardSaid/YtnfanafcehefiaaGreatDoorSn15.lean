/- A part of the claim: see the text that holds the theorem. -/
import Derived.Test.YtnfanafcehefiaaGreatDoorSn14
set_option linter.unusedSimpArgs false
set_option linter.unusedVariables false
namespace Go.Proofs
open Go Go.Bz
set_option maxRecDepth 100000
set_option maxHeartbeats 1000000

/-- A callee that has changed some known blocks and made others. -/
theorem Hp.call {w0 w w' : World} {A R M : Blks} (H : Hp w0 w (A ++ R)) (H' : Hp w w' M) (hM : ∀ p ∈ M, w.heap.size ≤ p.1 ∨ ∃ q ∈ A, q.1 = p.1) (hA : ∀ p ∈ A, ∃ q ∈ M, q.1 = p.1) : Hp w0 w' (M ++ R) := by
  have hnd := H.nd
  rw [List.map_append, List.nodup_append] at hnd
  have hRM : ∀ p ∈ R, ∀ q ∈ M, q.1 ≠ p.1 := fun p hp q hq he => by
    rcases hM q hq with h | ⟨a, ha, hae⟩
    · have := heap_lt (H.has p (List.mem_append_right _ hp)); omega
    · exact hnd.2.2 a.1 (List.mem_map.2 ⟨a, ha, rfl⟩) p.1 (List.mem_map.2 ⟨p, hp, rfl⟩) (hae.trans he)
  refine ⟨H'.os.trans H.os, H'.tape.trans H.tape, H'.output.trans H.output, Nat.le_trans H.le H'.le, fun p hp => ?_, fun b hb hL => ?_, ?_⟩
  · rcases List.mem_append.1 hp with hp | hp
    · exact H'.has p hp
    · rw [H'.old p.1 (heap_lt (H.has p (List.mem_append_right _ hp))) (fun q hq => hRM p hp q hq)]
      exact H.has p (List.mem_append_right _ hp)
  · have hbw := Nat.lt_of_lt_of_le hb H.le
    rw [H'.old b hbw fun q hq => hL q (List.mem_append_left _ hq)]
    refine H.old b hb fun p hp he => ?_
    rcases List.mem_append.1 hp with hp | hp
    · obtain ⟨q, hq, hqe⟩ := hA p hp
      exact hL q (List.mem_append_left _ hq) (hqe.trans he)
    · exact hL p (List.mem_append_right _ hp) he
  · rw [List.map_append, List.nodup_append]
    refine ⟨H'.nd, hnd.2.1, fun a ha b hb he => ?_⟩
    obtain ⟨q, hq, rfl⟩ := List.mem_map.1 ha
    obtain ⟨p, hp, rfl⟩ := List.mem_map.1 hb
    exact hRM p hp q hq he

abbrev script : List UInt8 := [35, 32, 97, 10, 10, 32, 32, 10, 10, 115, 101, 97, 116, 115, 32, 57, 57, 10, 98, 101, 103, 105, 110]

def restV (b : Nat) : Nat → Value
  | 0 => .slice (some ⟨b, 0, none⟩) 23 23
  | 1 => .slice (some ⟨b, 4, none⟩) 19 19
  | 2 => .slice (some ⟨b, 5, none⟩) 18 18
  | 3 => .slice (some ⟨b, 8, none⟩) 15 15
  | 4 => .slice (some ⟨b, 9, none⟩) 14 14
  | 5 => .slice (some ⟨b, 18, none⟩) 5 5
  | _ => .slice none 0 0

def seatsN : Nat → Int
  | 5 => 99
  | 6 => 99
  | _ => 4

theorem byte_elem : Elem Tryz.prog 5 1 1 [.int .u8 0] := ⟨_, _, rfl, rfl, rfl, rfl, rfl⟩

def ovV : Nat → Nat → Nat → Value
  | 5, ob, cap => .slice (some ⟨ob, 0, none⟩) 3 cap
  | 6, ob, cap => .slice (some ⟨ob, 0, none⟩) 11 cap
  | _, _, _ => .slice none 0 0

def ownB : Nat → Nat → List Value → Blks
  | 5, ob, rest => [(ob, .cells ⟨u8s [111, 107, 10] ++ rest⟩ 5 (0, 0))]
  | 6, ob, rest => [(ob, .cells ⟨u8s [111, 107, 10, 101, 114, 114, 111, 114, 32, 50, 10] ++ rest⟩ 5 (0, 0))]
  | _, _, _ => []

theorem run_script_ct (b : Nat) (f : Nat × Nat) (w : World) (hb : w.heap[b]? = some (.cells ⟨u8s script⟩ 5 f)) :
    Ct Tryz.prog 5 #[.slice (some ⟨b, 0, none⟩) 23 23] w fun v w' => ∃ ob cap rest, v = .tuple #[.slice (some ⟨ob, 0, none⟩) 11 cap, i64 0] ∧
      Hp w w' [(ob, .cells ⟨u8s [111, 107, 10, 101, 114, 114, 111, 114, 32, 50, 10] ++ rest⟩ 5 (0, 0))] ∧ w.heap.size ≤ ob := by
  refine Ct.of_code mx Tryz.func5 rfl (by kernel_rfl) rfl (by kernel_rfl) ?_
  refine CALLW.ct (new_ct _) fun v w1 hv => ?_
  obtain ⟨s, m, es, clock, kvs, B, rfl, H, hms, T, hs, hm, hB⟩ := hv
  refine LOOP.rule (fun x : Nat × Nat × Nat × List Value => [(4, ptr s), (6, restV b x.1), (5, ovV x.1 x.2.1 x.2.2.1)])
    (fun x w' => Hp w w' ([(s, .cells ⟨shellCells (seatsN x.1) (.map (some m))⟩ 43 (0, 0))] ++ ((m, .map ⟨es⟩ clock) :: B ++ ownB x.1 x.2.1 x.2.2.2)) ∧ (x.1 ≤ 4 ∨ w.heap.size ≤ x.2.1) ∧
      (x.1 = 5 → 3 ≤ x.2.2.1 ∧ x.2.2.2.length = x.2.2.1 - 3) ∧ x.1 ≤ 6)
    (fun x => 6 - x.1) (0, 0, 0, []) ⟨rfl, rfl, rfl, trivial⟩ ?_ ?_
  · exact ⟨by simpa [ownB, seatsN] using H, .inl (by decide), by simp, by decide⟩
  rintro ⟨k, ob, cap, rest⟩ w2 hh ⟨H, hob, hcap, hk⟩
  dsimp only at H hob hcap hk
  have hbs : ∀ {w3 : World} {L : Blks}, Hp w w3 L → (∀ p ∈ L, w.heap.size ≤ p.1) → w3.heap[b]? = some (.cells ⟨u8s script⟩ 5 f) := fun {w3 L} H h => by
    rw [H.old b (heap_lt hb) (fun p hp he => by have := h p hp; have := heap_lt hb; omega)]; exact hb
  have hmB : ∀ p ∈ (m, Obj.map ⟨es⟩ clock) :: B, w.heap.size ≤ p.1 := by
    intro p hp
    rcases List.mem_cons.1 hp with rfl | hp
    · exact hm
    · exact hB p hp
  have S : ∀ {w3 : World} {n : Int} {L : Blks}, Hp w w3 ([(s, .cells ⟨shellCells n (.map (some m))⟩ 43 (0, 0))] ++ ((m, .map ⟨es⟩ clock) :: B ++ L)) → Sh w3 s n m clock es kvs B := fun {w3 n L} H =>
    ⟨H.has (s, _) (by simp), H.has (m, _) (by simp), fun p hp => H.has p (by simp [hp]), hms, T⟩
  have hle := H.le
  obtain rfl | rfl | rfl | rfl | rfl | rfl | rfl : k = 0 ∨ k = 1 ∨ k = 2 ∨ k = 3 ∨ k = 4 ∨ k = 5 ∨ k = 6 := by omega
  · have H : Hp w w2 ([(s, .cells ⟨shellCells 4 (.map (some m))⟩ 43 (0, 0))] ++ ((m, .map ⟨es⟩ clock) :: B ++ [])) := H
    have hb2 := hbs H (by intro p hp; rcases List.mem_append.1 hp with hp | hp; (· simp at hp; subst hp; exact hs); (· exact hmB p (by simpa using hp)))
    refine AL.hp (Hp.refl w2) fun sb w3 hsb H3 => ?_
    have H3 : Hp w2 w3 [(sb, .cells ⟨[.int .u8 10]⟩ 5 (0, 0))] := H3
    have hb3 : w3.heap[b]? = some (.cells ⟨u8s script⟩ 5 f) := by rw [(Hp.drop (M := [_]) H3 (by simp [hsb])).old b (heap_lt hb2) (by simp)]; exact hb2
    refine CALLW.ct (cut_found_ct b 0 23 sb 1 3 (script.drop 0) _ _ _ _ _ _ hb3 rfl (H3.has (sb, _) (List.mem_cons_self ..)) (by decide) (by decide) (by decide) (by decide) (by decide)) fun v w4 hv => ?_
    obtain ⟨rfl, H4⟩ := hv
    have H4 := H.pure ((Hp.drop (M := [_]) H3 (by simp [hsb])).pure H4)
    have hb4 := hbs H4 (by intro p hp; rcases List.mem_append.1 hp with hp | hp; (· simp at hp; subst hp; exact hs); (· exact hmB p (by simpa using hp)))
    refine CALLW.ct (line_said_nothing_ct s b 0 23 [35, 32, 97] _ _ _ _ hb4 (by decide) rfl (by decide) (by decide) (.inr ⟨[], [[97]], by decide⟩)) fun v w5 hv => ?_
    obtain ⟨rfl, H5⟩ := hv
    have H5 := H4.pure H5
    refine APP.none (x := .slice none 0 0) rfl byte_elem rfl rfl rfl Cells.none ?_
    exact ⟨rfl, (1, 0, 0, []), ⟨rfl, rfl, rfl, trivial⟩, ⟨H5, .inl (by dsimp only; omega), by simp, by dsimp only; omega⟩, by dsimp only; omega⟩
  · have H : Hp w w2 ([(s, .cells ⟨shellCells 4 (.map (some m))⟩ 43 (0, 0))] ++ ((m, .map ⟨es⟩ clock) :: B ++ [])) := H
    have hb2 := hbs H (by intro p hp; rcases List.mem_append.1 hp with hp | hp; (· simp at hp; subst hp; exact hs); (· exact hmB p (by simpa using hp)))
    refine AL.hp (Hp.refl w2) fun sb w3 hsb H3 => ?_
    have H3 : Hp w2 w3 [(sb, .cells ⟨[.int .u8 10]⟩ 5 (0, 0))] := H3
    have hb3 : w3.heap[b]? = some (.cells ⟨u8s script⟩ 5 f) := by rw [(Hp.drop (M := [_]) H3 (by simp [hsb])).old b (heap_lt hb2) (by simp)]; exact hb2
    refine CALLW.ct (cut_found_ct b 4 19 sb 1 0 (script.drop 4) _ _ _ _ _ _ hb3 rfl (H3.has (sb, _) (List.mem_cons_self ..)) (by decide) (by decide) (by decide) (by decide) (by decide)) fun v w4 hv => ?_
    obtain ⟨rfl, H4⟩ := hv
    have H4 := H.pure ((Hp.drop (M := [_]) H3 (by simp [hsb])).pure H4)
    have hb4 := hbs H4 (by intro p hp; rcases List.mem_append.1 hp with hp | hp; (· simp at hp; subst hp; exact hs); (· exact hmB p (by simpa using hp)))
    refine CALLW.ct (line_said_nothing_ct s b 4 19 [] _ _ _ _ hb4 (by decide) rfl (by decide) (by decide) (.inl (by decide))) fun v w5 hv => ?_
    obtain ⟨rfl, H5⟩ := hv
    have H5 := H4.pure H5
    refine APP.none (x := .slice none 0 0) rfl byte_elem rfl rfl rfl Cells.none ?_
    exact ⟨rfl, (2, 0, 0, []), ⟨rfl, rfl, rfl, trivial⟩, ⟨H5, .inl (by dsimp only; omega), by simp, by dsimp only; omega⟩, by dsimp only; omega⟩
  · have H : Hp w w2 ([(s, .cells ⟨shellCells 4 (.map (some m))⟩ 43 (0, 0))] ++ ((m, .map ⟨es⟩ clock) :: B ++ [])) := H
    have hb2 := hbs H (by intro p hp; rcases List.mem_append.1 hp with hp | hp; (· simp at hp; subst hp; exact hs); (· exact hmB p (by simpa using hp)))
    refine AL.hp (Hp.refl w2) fun sb w3 hsb H3 => ?_
    have H3 : Hp w2 w3 [(sb, .cells ⟨[.int .u8 10]⟩ 5 (0, 0))] := H3
    have hb3 : w3.heap[b]? = some (.cells ⟨u8s script⟩ 5 f) := by rw [(Hp.drop (M := [_]) H3 (by simp [hsb])).old b (heap_lt hb2) (by simp)]; exact hb2
    refine CALLW.ct (cut_found_ct b 5 18 sb 1 2 (script.drop 5) _ _ _ _ _ _ hb3 rfl (H3.has (sb, _) (List.mem_cons_self ..)) (by decide) (by decide) (by decide) (by decide) (by decide)) fun v w4 hv => ?_
    obtain ⟨rfl, H4⟩ := hv
    have H4 := H.pure ((Hp.drop (M := [_]) H3 (by simp [hsb])).pure H4)
    have hb4 := hbs H4 (by intro p hp; rcases List.mem_append.1 hp with hp | hp; (· simp at hp; subst hp; exact hs); (· exact hmB p (by simpa using hp)))
    refine CALLW.ct (line_said_nothing_ct s b 5 18 [32, 32] _ _ _ _ hb4 (by decide) rfl (by decide) (by decide) (.inl (by decide))) fun v w5 hv => ?_
    obtain ⟨rfl, H5⟩ := hv
    have H5 := H4.pure H5
    refine APP.none (x := .slice none 0 0) rfl byte_elem rfl rfl rfl Cells.none ?_
    exact ⟨rfl, (3, 0, 0, []), ⟨rfl, rfl, rfl, trivial⟩, ⟨H5, .inl (by dsimp only; omega), by simp, by dsimp only; omega⟩, by dsimp only; omega⟩
  · have H : Hp w w2 ([(s, .cells ⟨shellCells 4 (.map (some m))⟩ 43 (0, 0))] ++ ((m, .map ⟨es⟩ clock) :: B ++ [])) := H
    have hb2 := hbs H (by intro p hp; rcases List.mem_append.1 hp with hp | hp; (· simp at hp; subst hp; exact hs); (· exact hmB p (by simpa using hp)))
    refine AL.hp (Hp.refl w2) fun sb w3 hsb H3 => ?_
    have H3 : Hp w2 w3 [(sb, .cells ⟨[.int .u8 10]⟩ 5 (0, 0))] := H3
    have hb3 : w3.heap[b]? = some (.cells ⟨u8s script⟩ 5 f) := by rw [(Hp.drop (M := [_]) H3 (by simp [hsb])).old b (heap_lt hb2) (by simp)]; exact hb2
    refine CALLW.ct (cut_found_ct b 8 15 sb 1 0 (script.drop 8) _ _ _ _ _ _ hb3 rfl (H3.has (sb, _) (List.mem_cons_self ..)) (by decide) (by decide) (by decide) (by decide) (by decide)) fun v w4 hv => ?_
    obtain ⟨rfl, H4⟩ := hv
    have H4 := H.pure ((Hp.drop (M := [_]) H3 (by simp [hsb])).pure H4)
    have hb4 := hbs H4 (by intro p hp; rcases List.mem_append.1 hp with hp | hp; (· simp at hp; subst hp; exact hs); (· exact hmB p (by simpa using hp)))
    refine CALLW.ct (line_said_nothing_ct s b 8 15 [] _ _ _ _ hb4 (by decide) rfl (by decide) (by decide) (.inl (by decide))) fun v w5 hv => ?_
    obtain ⟨rfl, H5⟩ := hv
    have H5 := H4.pure H5
    refine APP.none (x := .slice none 0 0) rfl byte_elem rfl rfl rfl Cells.none ?_
    exact ⟨rfl, (4, 0, 0, []), ⟨rfl, rfl, rfl, trivial⟩, ⟨H5, .inl (by dsimp only; omega), by simp, by dsimp only; omega⟩, by dsimp only; omega⟩
  · have H : Hp w w2 ([(s, .cells ⟨shellCells 4 (.map (some m))⟩ 43 (0, 0))] ++ ((m, .map ⟨es⟩ clock) :: B ++ [])) := H
    have hb2 := hbs H (by intro p hp; rcases List.mem_append.1 hp with hp | hp; (· simp at hp; subst hp; exact hs); (· exact hmB p (by simpa using hp)))
    refine AL.hp (Hp.refl w2) fun sb w3 hsb H3 => ?_
    have H3 : Hp w2 w3 [(sb, .cells ⟨[.int .u8 10]⟩ 5 (0, 0))] := H3
    have hb3 : w3.heap[b]? = some (.cells ⟨u8s script⟩ 5 f) := by rw [(Hp.drop (M := [_]) H3 (by simp [hsb])).old b (heap_lt hb2) (by simp)]; exact hb2
    refine CALLW.ct (cut_found_ct b 9 14 sb 1 8 (script.drop 9) _ _ _ _ _ _ hb3 rfl (H3.has (sb, _) (List.mem_cons_self ..)) (by decide) (by decide) (by decide) (by decide) (by decide)) fun v w4 hv => ?_
    obtain ⟨rfl, H4⟩ := hv
    have H4 := H.pure ((Hp.drop (M := [_]) H3 (by simp [hsb])).pure H4)
    have hb4 := hbs H4 (by intro p hp; rcases List.mem_append.1 hp with hp | hp; (· simp at hp; subst hp; exact hs); (· exact hmB p (by simpa using hp)))
    refine CALLW.ct (line_seats_ct s b 9 14 m clock _ _ _ es kvs B _ hb4 (by decide) rfl (S H4)) fun v w5 hv => ?_
    obtain ⟨b', cap', n, hn, rfl, H5, hb', hcap'⟩ := hv
    have hb'0 : w.heap.size ≤ b' := Nat.le_trans H4.le hb'
    have H5 := Hp.call (A := [(s, .cells ⟨shellCells 4 (.map (some m))⟩ 43 (0, 0))]) H4 H5 (by
        intro p hp
        rcases List.mem_cons.1 hp with rfl | hp
        · exact .inl hb'
        · exact .inr ⟨_, List.mem_singleton_self _, by rw [List.mem_singleton.1 hp]⟩) (by
        intro p hp
        rw [List.mem_singleton.1 hp]
        exact ⟨_, List.mem_cons_of_mem _ (List.mem_singleton_self _), rfl⟩)
    have H5 : Hp w w5 (([(b', .cells ⟨u8s [111, 107, 10] ++ List.replicate (cap' - 3) (.int .u8 0)⟩ 5 (cap', cap' + 1)), (s, .cells ⟨shellCells 99 (.map (some m))⟩ 43 (0, 0))] ++ ((m, .map ⟨es⟩ clock) :: B)) ++ []) := by simpa using H5
    refine IFB.mk (fun h => ?_) (fun _ => ?_)
    · simp only [decide_eq_true_eq] at h; rw [IntKind.wrap_i64] at h; omega
    subst hn
    refine APP.own rfl byte_elem rfl rfl rfl (.inl ⟨rfl, rfl, rfl, rfl⟩ : SL w 5 1 (.slice none 0 0) 0 [] []) (x := .slice (some ⟨b', 0, none⟩) 3 cap') (m := 3) rfl H5 (new := u8s [111, 107, 10]) (Cells.hp H5 0 rfl (by simp) (by simp [u8s])) rfl rfl (by decide) (by decide) fun v' w6 own' hSL H6 => ?_
    have row := hSL.row (hSL.ne (Nat.zero_lt_succ _))
    obtain ⟨ob', cap2, rest2, e1, e2, -, hrest2, hcap2, hob2⟩ := row
    rw [e2] at H6
    have H6 : Hp w w6 ([(b', .cells ⟨u8s [111, 107, 10] ++ List.replicate (cap' - 3) (.int .u8 0)⟩ 5 (cap', cap' + 1))] ++ ([(s, .cells ⟨shellCells 99 (.map (some m))⟩ 43 (0, 0))] ++ ((m, .map ⟨es⟩ clock) :: B ++ [(ob', .cells ⟨u8s [111, 107, 10] ++ rest2⟩ 5 (0, 0))]))) := by simpa using H6
    have H6 := Hp.drop H6 (by simp [hb'0])
    exact ⟨rfl, (5, ob', cap2, rest2), ⟨rfl, rfl, e1, trivial⟩, ⟨H6, .inr hob2, fun _ => ⟨hcap2, by simpa using hrest2⟩, by dsimp only; omega⟩, by dsimp only; omega⟩
  · have H : Hp w w2 ([(s, .cells ⟨shellCells 99 (.map (some m))⟩ 43 (0, 0))] ++ ((m, .map ⟨es⟩ clock) :: B ++ [(ob, .cells ⟨u8s [111, 107, 10] ++ rest⟩ 5 (0, 0))])) := H
    obtain ⟨hcap1, hrest⟩ := hcap rfl
    have hob : w.heap.size ≤ ob := by rcases hob with h | h; (· omega); (· exact h)
    have hall : ∀ p ∈ ([(s, Obj.cells ⟨shellCells 99 (.map (some m))⟩ 43 (0, 0))] ++ ((m, Obj.map ⟨es⟩ clock) :: B ++ [(ob, Obj.cells ⟨u8s [111, 107, 10] ++ rest⟩ 5 (0, 0))])), w.heap.size ≤ p.1 := by
      intro p hp
      rcases List.mem_append.1 hp with hp | hp
      · simp at hp; subst hp; exact hs
      rcases List.mem_append.1 hp with hp | hp
      · exact hmB p hp
      · simp at hp; subst hp; exact hob
    have hb2 := hbs H hall
    refine AL.hp (Hp.refl w2) fun sb w3 hsb H3 => ?_
    have H3 : Hp w2 w3 [(sb, .cells ⟨[.int .u8 10]⟩ 5 (0, 0))] := H3
    have hb3 : w3.heap[b]? = some (.cells ⟨u8s script⟩ 5 f) := by rw [(Hp.drop (M := [_]) H3 (by simp [hsb])).old b (heap_lt hb2) (by simp)]; exact hb2
    refine CALLW.ct (cut_none_ct b 18 5 sb 1 (script.drop 18) _ _ _ _ _ _ hb3 rfl (H3.has (sb, _) (List.mem_cons_self ..)) (by decide)) fun v w4 hv => ?_
    obtain ⟨rfl, H4⟩ := hv
    have H4 := H.pure ((Hp.drop (M := [_]) H3 (by simp [hsb])).pure H4)
    have hb4 := hbs H4 hall
    refine CALLW.ct (line_begin_ct s b 18 5 m clock _ _ _ es kvs B _ hb4 (by decide) rfl (S H4)) fun v w5 hv => ?_
    obtain ⟨b', cap', n, hn, rfl, H5, hb', hcap'⟩ := hv
    have hb'0 : w.heap.size ≤ b' := Nat.le_trans H4.le hb'
    have H5 := H4.more H5 (by simp [hb'])
    have H5 : Hp w w5 (([(b', .cells ⟨u8s [101, 114, 114, 111, 114, 32, 50, 10] ++ List.replicate (cap' - 8) (.int .u8 0)⟩ 5 (cap', cap' + 1)), (s, .cells ⟨shellCells 99 (.map (some m))⟩ 43 (0, 0))] ++ ((m, .map ⟨es⟩ clock) :: B)) ++ [(ob, .cells ⟨u8s [111, 107, 10] ++ rest⟩ 5 (0, 0))]) := by simpa using H5
    refine IFB.mk (fun h => ?_) (fun _ => ?_)
    · simp only [decide_eq_true_eq] at h; rw [IntKind.wrap_i64] at h; omega
    subst hn
    refine APP.own rfl byte_elem rfl rfl rfl (.inr ⟨ob, cap, rest, rfl, rfl, rfl, by simpa using hrest, hcap1, hob⟩ : SL w 5 1 (.slice (some ⟨ob, 0, none⟩) 3 cap) 3 (u8s [111, 107, 10]) _) (x := .slice (some ⟨b', 0, none⟩) 8 cap') (m := 8) rfl H5 (new := u8s [101, 114, 114, 111, 114, 32, 50, 10]) (Cells.hp H5 0 rfl (by simp) (by simp [u8s])) rfl rfl (by decide) (by decide) fun v' w6 own' hSL H6 => ?_
    have row := hSL.row (hSL.ne (Nat.zero_lt_succ _))
    obtain ⟨ob', cap2, rest2, e1, e2, -, hrest2, hcap2, hob2⟩ := row
    rw [e2] at H6
    have H6 : Hp w w6 ([(b', .cells ⟨u8s [101, 114, 114, 111, 114, 32, 50, 10] ++ List.replicate (cap' - 8) (.int .u8 0)⟩ 5 (cap', cap' + 1))] ++ ([(s, .cells ⟨shellCells 99 (.map (some m))⟩ 43 (0, 0))] ++ ((m, .map ⟨es⟩ clock) :: B ++ [(ob', .cells ⟨u8s [111, 107, 10, 101, 114, 114, 111, 114, 32, 50, 10] ++ rest2⟩ 5 (0, 0))]))) := by simpa using H6
    have H6 := Hp.drop H6 (by simp [hb'0])
    exact ⟨rfl, (6, ob', cap2, rest2), ⟨rfl, rfl, e1, trivial⟩, ⟨H6, .inr hob2, by simp, by dsimp only; omega⟩, by dsimp only; omega⟩
  · have H : Hp w w2 ([(s, .cells ⟨shellCells 99 (.map (some m))⟩ 43 (0, 0))] ++ ((m, .map ⟨es⟩ clock) :: B ++ [(ob, .cells ⟨u8s [111, 107, 10, 101, 114, 114, 111, 114, 32, 50, 10] ++ rest⟩ 5 (0, 0))])) := H
    have hob : w.heap.size ≤ ob := by rcases hob with h | h; (· omega); (· exact h)
    rw [← List.append_assoc] at H
    refine ⟨ob, cap, rest, rfl, Hp.drop H ?_, hob⟩
    intro p hp
    rcases List.mem_append.1 hp with hp | hp
    · simp at hp; subst hp; exact hs
    · exact hmB p hp

end Go.Proofs
