/- A part of the claim: see the text that holds the theorem. -/
import Derived.Test.YtnfanafcehefiaaGreatDoorSn15
import Derived.Test.YtnfanafcehefiaaGreatDoorBzCut
set_option linter.unusedSimpArgs false
set_option linter.unusedVariables false
namespace Go.Proofs
open Go Go.Bz
set_option maxRecDepth 100000
set_option maxHeartbeats 400000

theorem SLC.val {P : Program} {t el : TypeId} {sz : Nat} (hu : P.underlying t = some (.slice el)) (hs : sizeB P el = some sz) {x : Option Addr} {len cap : Nat} {lo hi mx : Option Value} {l h m : Nat} {K : Value → Prop} {v : Value}
    (hb : Bnds len cap lo hi mx l h m) (hv : Value.slice (if m = l then x else x.map (·.add (l * sz))) (h - l) (m - l) = v) (hk : K v) : SLC P t (.slice x len cap) lo hi mx K :=
  SLC.slice hu hs hb (hv ▸ hk)

noncomputable def opsOf : Code → Array Oper
  | .region _ ops _ => ops
  | .seq a _ => opsOf a
  | _ => #[]

noncomputable def opsEnd : Array Oper := opsOf (after 11 (Tryz.f3.body.getD .skip))

theorem none_end (db dcap yb ycap ob ocap : Nat) (orest : List Value) (w w16 : World) (hdb : w.heap.size ≤ db) (hyb : w.heap.size ≤ yb) (hob : w.heap.size ≤ ob)
    (H : Hp w w16 [(ob, .cells ⟨u8s [111, 107, 10, 101, 114, 114, 111, 114, 32, 50, 10] ++ orest⟩ 5 (0, 0)), (yb, .cells ⟨u8s error320 ++ List.replicate (ycap - 10) (.int .u8 0)⟩ 5 (ycap, ycap + 1)), (db, .cells ⟨u8s error320 ++ List.replicate (dcap - 10) (.int .u8 0)⟩ 5 (dcap, dcap + 1))]) (e' : Env) :
    codeE Tryz.prog (after 11 (Tryz.f3.body.getD .skip)) (finE Tryz.prog Tryz.f3.results.toList fun v w' => v = .bool true ∧ Hp w w' [])
      (ovl [(2, .slice none 0 0), (3, i64 1), (5, .slice none 0 0), (6, i64 3), (8, .slice none 0 0), (9, i64 3), (10, .slice (some ⟨db, 0, none⟩) 10 dcap), (11, i64 0), (12, .slice none 0 0), (13, i64 0), (14, .slice (some ⟨yb, 0, none⟩) 10 ycap), (15, i64 0), (16, .slice (some ⟨ob, 0, none⟩) 11 ocap), (17, i64 0)] e') [] w16 := by
  suffices h : opsE Tryz.prog opsEnd (fun e ds w' => finE Tryz.prog Tryz.f3.results.toList (fun v w' => v = .bool true ∧ Hp w w' []) .ret e ds w') (List.range 69)
      (ovl [(2, .slice none 0 0), (3, i64 1), (5, .slice none 0 0), (6, i64 3), (8, .slice none 0 0), (9, i64 3), (10, .slice (some ⟨db, 0, none⟩) 10 dcap), (11, i64 0), (12, .slice none 0 0), (13, i64 0), (14, .slice (some ⟨yb, 0, none⟩) 10 ycap), (15, i64 0), (16, .slice (some ⟨ob, 0, none⟩) 11 ocap), (17, i64 0)] e') [] w16 from h
  refine CALLW.ct (num_ct _ _) fun v w20 hv => ?_
  obtain ⟨rfl, Hn⟩ := hv
  have H := H.pure Hn
  refine CALLW.ct (num_ct _ _) fun v w21 hv => ?_
  obtain ⟨rfl, Hn⟩ := hv
  have H := H.pure Hn
  refine CALLW.ct (num_ct _ _) fun v w22 hv => ?_
  obtain ⟨rfl, Hn⟩ := hv
  have H := H.pure Hn
  refine CNV.toStr (l := error320) rfl rfl rfl H 2 (o := 0) rfl rfl (by simp [u8s]) (by simp [u8s]) ?_
  refine IFB.yes ((str_beq _ _).trans (by decide)) ?_
  refine CALLW.ct (num_ct _ _) fun v w23 hv => ?_
  obtain ⟨rfl, Hn⟩ := hv
  have H := H.pure Hn
  refine CALLW.ct (num_ct _ _) fun v w24 hv => ?_
  obtain ⟨rfl, Hn⟩ := hv
  have H := H.pure Hn
  refine CNV.toStr (l := error320) rfl rfl rfl H 1 (o := 0) rfl rfl (by simp [u8s]) (by simp [u8s]) ?_
  refine IFB.yes ((str_beq _ _).trans (by decide)) ?_
  refine CALLW.ct (num_ct _ _) fun v w25 hv => ?_
  obtain ⟨rfl, Hn⟩ := hv
  have H := H.pure Hn
  refine CNV.toStr (l := [111, 107, 10, 101, 114, 114, 111, 114, 32, 50, 10]) rfl rfl rfl H 0 (o := 0) rfl rfl (by simp [u8s]) (by simp [u8s]) ?_
  refine IFB.yes ((str_beq _ _).trans (by decide)) ?_
  refine CALLW.ct (num_ct _ _) fun v w26 hv => ?_
  obtain ⟨rfl, Hn⟩ := hv
  have H := H.pure Hn
  exact ⟨rfl, Hp.drop (L := []) (by rw [List.append_nil]; exact H) (by simp [hob, hyb, hdb])⟩

theorem shellNone_ct (gl : List Value) (gf : TypeId × Nat × Nat) (w : World) (G : Gl w gl gf) : Ct Tryz.prog 3 #[] w fun v w' => v = .bool true ∧ Hp w w' [] := by
  refine Ct.of_code mx Tryz.func3 rfl (by kernel_rfl) rfl (by kernel_rfl) ?_
  refine cut_after 11 (fun x : Nat × Nat × Nat × Nat × Nat × Nat × List Value => [(2, .slice none 0 0), (3, i64 1), (5, .slice none 0 0), (6, i64 3), (8, .slice none 0 0), (9, i64 3), (10, .slice (some ⟨x.1, 0, none⟩) 10 x.2.1), (11, i64 0), (12, .slice none 0 0), (13, i64 0), (14, .slice (some ⟨x.2.2.1, 0, none⟩) 10 x.2.2.2.1), (15, i64 0), (16, .slice (some ⟨x.2.2.2.2.1, 0, none⟩) 11 x.2.2.2.2.2.1), (17, i64 0)])
    (fun x w' => w.heap.size ≤ x.1 ∧ w.heap.size ≤ x.2.2.1 ∧ w.heap.size ≤ x.2.2.2.2.1 ∧ Hp w w' [(x.2.2.2.2.1, .cells ⟨u8s [111, 107, 10, 101, 114, 114, 111, 114, 32, 50, 10] ++ x.2.2.2.2.2.2⟩ 5 (0, 0)), (x.2.2.1, .cells ⟨u8s error320 ++ List.replicate (x.2.2.2.1 - 10) (.int .u8 0)⟩ 5 (x.2.2.2.1, x.2.2.2.1 + 1)), (x.1, .cells ⟨u8s error320 ++ List.replicate (x.2.1 - 10) (.int .u8 0)⟩ 5 (x.2.1, x.2.1 + 1))]) ?_ ?_
  rotate_left
  · rintro ⟨db, dcap, yb, ycap, ob, ocap, orest⟩ w16 e' ⟨hdb, hyb, hob, H⟩
    exact none_end db dcap yb ycap ob ocap orest w w16 hdb hyb hob H e'
  have gg : ∀ {w' : World} {L : Blks}, Hp w w' L → (∀ p ∈ L, w.heap.size ≤ p.1) → Gl w' gl gf := fun {w' L} H h =>
    ⟨G.hc, by rw [H.old 1 (heap_lt G.hg) (fun p hp he => by have := h p hp; have := heap_lt G.hg; omega)]; exact G.hg⟩
  refine AL.hp (o := .cells ⟨u8s [114, 111, 117, 110, 100]⟩ 5 (0, 0)) (Hp.refl w) fun a5 w1 ha5 H => ?_
  refine CNV.mark rfl rfl H 0 rfl fun w1 H => ?_
  refine CALLW.ct (line_nil_ct _ _) fun v w2 hv => ?_
  obtain ⟨rfl, H2⟩ := hv
  have H := Hp.drop (M := [_]) (L := []) (H.pure H2) (by simp [ha5])
  refine MKS.hp rfl byte_elem rfl (l := 65537) (c := 65537) (Nat.le_refl _) (by decide) (by decide) H fun zb w3 hzb H => ?_
  rw [zerosL_one] at H
  obtain ⟨Z, hZ⟩ : ∃ Z, Z = List.replicate 65537 (Value.int .u8 0) := ⟨_, rfl⟩
  rw [← hZ] at H
  refine CALLW.ct (run_long_ct _ _) fun v w4 hv => ?_
  obtain ⟨rfl, H4⟩ := hv
  have H := H.pure H4
  refine CALLW.ct (new_ct _) fun v w5 hv => ?_
  obtain ⟨s, m, es, clock, kvs, B, rfl, H5, hms, T, hs, hm, hB⟩ := hv
  have hs0 : w.heap.size ≤ s := Nat.le_trans H.le hs
  have hm0 : w.heap.size ≤ m := Nat.le_trans H.le hm
  have hB0 : ∀ p ∈ B, w.heap.size ≤ p.1 := fun p hp => Nat.le_trans H.le (hB p hp)
  have H := H.more H5 (by
    intro p hp
    rcases List.mem_cons.1 hp with rfl | hp
    · exact hs
    rcases List.mem_cons.1 hp with rfl | hp
    · exact hm
    · exact hB p hp)
  obtain ⟨R, hR⟩ : ∃ R : Blks, R = (s, Obj.cells ⟨shellCells 4 (.map (some m))⟩ 43 (0, 0)) :: (m, Obj.map ⟨es⟩ clock) :: B ++ [(zb, Obj.cells ⟨Z⟩ 5 (0, 0))] := ⟨_, rfl⟩
  rw [← hR] at H
  have hRall : ∀ p ∈ R, w.heap.size ≤ p.1 := by
    intro p hp
    rw [hR] at hp
    rcases List.mem_append.1 hp with hp | hp
    · rcases List.mem_cons.1 hp with rfl | hp
      · exact hs0
      rcases List.mem_cons.1 hp with rfl | hp
      · exact hm0
      · exact hB0 p hp
    · rw [List.mem_singleton.1 hp]; exact hzb
  have hall : ∀ {M : Blks}, (∀ p ∈ M, w.heap.size ≤ p.1) → ∀ p ∈ M ++ R, w.heap.size ≤ p.1 := by
    intro M hM p hp
    rcases List.mem_append.1 hp with hp | hp
    · exact hM p hp
    · exact hRall p hp
  have S : ∀ {w3 : World} {M : Blks}, Hp w w3 (M ++ R) → Sh w3 s 4 m clock es kvs B := fun {w3 M} H =>
    ⟨H.has (s, _) (by simp [hR]), H.has (m, _) (by simp [hR]), fun p hp => H.has p (by simp [hR, hp]), hms, T⟩
  have hz : ∀ {w3 : World} {M : Blks}, Hp w w3 (M ++ R) → w3.heap[zb]? = some (.cells ⟨Z⟩ 5 (0, 0)) := fun {w3 M} H => H.has (zb, _) (by simp [hR])
  refine CALLW.ct (line_long_ct s _ _) fun v w6 hv => ?_
  obtain ⟨rfl, H6⟩ := hv
  have H : Hp w w6 ([] ++ R) := H.pure H6
  refine SLC.val (v := .slice (some ⟨zb, 0, none⟩) 65536 65537) (l := 0) (h := 65536) (m := 65537) (sz := 1) rfl rfl ⟨rfl, ⟨_, rfl⟩, rfl, by decide, by decide, Nat.le_refl _⟩ (by rw [if_neg (by omega)]; rfl) ?_
  refine CALLW.ct (line_zeros_ct 65535 (by decide) (by decide) s zb 65537 m clock 4 Z 5 (0, 0) es kvs B gl gf _ (hz H) (by rw [hZ, List.length_replicate]; omega)
    (by rw [hZ, List.drop_zero, List.take_replicate, Nat.min_eq_left (by omega)]) (S H) (gg H (hall (by simp)))) fun v w7 hv => ?_
  obtain ⟨db, dcap, rfl, H7, hdb, hdcap⟩ := hv
  have hdb0 : w.heap.size ≤ db := Nat.le_trans H.le hdb
  have H : Hp w w7 ([(db, .cells ⟨u8s error320 ++ List.replicate (dcap - 10) (.int .u8 0)⟩ 5 (dcap, dcap + 1))] ++ R) := H.more H7 (by simpa using hdb)
  refine AL.hp (o := .cells ⟨u8s [32, 32, 35, 32, 114, 111, 117, 110, 100]⟩ 5 (0, 0)) H fun a9 w8 ha9 H => ?_
  have H : Hp w w8 ([(a9, .cells ⟨u8s [32, 32, 35, 32, 114, 111, 117, 110, 100]⟩ 5 (0, 0)), (db, .cells ⟨u8s error320 ++ List.replicate (dcap - 10) (.int .u8 0)⟩ 5 (dcap, dcap + 1))] ++ R) := H
  refine CNV.mark rfl rfl H 0 rfl fun w9 H => ?_
  have H : Hp w w9 ([(a9, .cells ⟨u8s [32, 32, 35, 32, 114, 111, 117, 110, 100]⟩ 5 (9, 10))] ++ ([(db, .cells ⟨u8s error320 ++ List.replicate (dcap - 10) (.int .u8 0)⟩ 5 (dcap, dcap + 1))] ++ R)) := H
  refine CALLW.ct (line_said_nothing_ct s a9 0 9 [32, 32, 35, 32, 114, 111, 117, 110, 100] (u8s [32, 32, 35, 32, 114, 111, 117, 110, 100]) 5 (9, 10) _ (H.has (a9, _) (List.mem_cons_self ..)) (by decide) rfl (by decide) (by decide) (.inr ⟨[], [[114, 111, 117, 110, 100]], by decide⟩)) fun v w10 hv => ?_
  obtain ⟨rfl, H10⟩ := hv
  have H := Hp.drop (H.pure H10) (by simp [ha9])
  refine AL.hp (o := .cells ⟨u8s [32, 114, 111, 117, 110, 100]⟩ 5 (0, 0)) H fun a6 w11 ha6 H => ?_
  have H : Hp w w11 ([(a6, .cells ⟨u8s [32, 114, 111, 117, 110, 100]⟩ 5 (0, 0)), (db, .cells ⟨u8s error320 ++ List.replicate (dcap - 10) (.int .u8 0)⟩ 5 (dcap, dcap + 1))] ++ R) := H
  refine CNV.mark rfl rfl H 0 rfl fun w12 H => ?_
  have H : Hp w w12 ([(a6, .cells ⟨u8s [32, 114, 111, 117, 110, 100]⟩ 5 (6, 7)), (db, .cells ⟨u8s error320 ++ List.replicate (dcap - 10) (.int .u8 0)⟩ 5 (dcap, dcap + 1))] ++ R) := H
  refine CALLW.ct (line_round_ct s a6 6 m clock 4 (u8s [32, 114, 111, 117, 110, 100]) 5 (6, 7) es kvs B gl gf _ (H.has (a6, _) (List.mem_cons_self ..)) (by decide) rfl (S H) (gg H (hall (by simp [ha6, hdb0])))) fun v w13 hv => ?_
  obtain ⟨yb, ycap, rfl, H13, hyb, hycap⟩ := hv
  have hyb0 : w.heap.size ≤ yb := Nat.le_trans H.le hyb
  have H := H.more H13 (by simpa using hyb)
  have H : Hp w w13 ([(a6, .cells ⟨u8s [32, 114, 111, 117, 110, 100]⟩ 5 (6, 7))] ++ ([(yb, .cells ⟨u8s error320 ++ List.replicate (ycap - 10) (.int .u8 0)⟩ 5 (ycap, ycap + 1)), (db, .cells ⟨u8s error320 ++ List.replicate (dcap - 10) (.int .u8 0)⟩ 5 (dcap, dcap + 1))] ++ R)) := H.perm (List.Perm.swap ..)
  have H := Hp.drop H (by simp [ha6])
  refine AL.hp (o := .cells ⟨u8s script⟩ 5 (0, 0)) H fun a23 w14 ha23 H => ?_
  have H : Hp w w14 ([(a23, .cells ⟨u8s script⟩ 5 (0, 0)), (yb, .cells ⟨u8s error320 ++ List.replicate (ycap - 10) (.int .u8 0)⟩ 5 (ycap, ycap + 1)), (db, .cells ⟨u8s error320 ++ List.replicate (dcap - 10) (.int .u8 0)⟩ 5 (dcap, dcap + 1))] ++ R) := H
  refine CNV.mark rfl rfl H 0 rfl fun w15 H => ?_
  have H : Hp w w15 ([(a23, .cells ⟨u8s script⟩ 5 (23, 24)), (yb, .cells ⟨u8s error320 ++ List.replicate (ycap - 10) (.int .u8 0)⟩ 5 (ycap, ycap + 1)), (db, .cells ⟨u8s error320 ++ List.replicate (dcap - 10) (.int .u8 0)⟩ 5 (dcap, dcap + 1))] ++ R) := H
  refine CALLW.ct (run_script_ct a23 (23, 24) _ (H.has (a23, _) (List.mem_cons_self ..))) fun v w16 hv => ?_
  obtain ⟨ob, ocap, orest, rfl, H16, hob⟩ := hv
  have hob0 : w.heap.size ≤ ob := Nat.le_trans H.le hob
  have H := H.more H16 (by simpa using hob)
  have H : Hp w w16 ([(ob, .cells ⟨u8s [111, 107, 10, 101, 114, 114, 111, 114, 32, 50, 10] ++ orest⟩ 5 (0, 0)), (a23, .cells ⟨u8s script⟩ 5 (23, 24)), (yb, .cells ⟨u8s error320 ++ List.replicate (ycap - 10) (.int .u8 0)⟩ 5 (ycap, ycap + 1)), (db, .cells ⟨u8s error320 ++ List.replicate (dcap - 10) (.int .u8 0)⟩ 5 (dcap, dcap + 1))] ++ R) := H
  have H : Hp w w16 (([(a23, .cells ⟨u8s script⟩ 5 (23, 24))] ++ R) ++ [(ob, .cells ⟨u8s [111, 107, 10, 101, 114, 114, 111, 114, 32, 50, 10] ++ orest⟩ 5 (0, 0)), (yb, .cells ⟨u8s error320 ++ List.replicate (ycap - 10) (.int .u8 0)⟩ 5 (ycap, ycap + 1)), (db, .cells ⟨u8s error320 ++ List.replicate (dcap - 10) (.int .u8 0)⟩ 5 (dcap, dcap + 1))]) := H.perm (by
    simp only [List.cons_append, List.nil_append]
    refine List.Perm.trans (List.Perm.swap ..) (List.Perm.cons _ ?_)
    exact List.perm_append_comm (l₁ := [(ob, Obj.cells ⟨u8s [111, 107, 10, 101, 114, 114, 111, 114, 32, 50, 10] ++ orest⟩ 5 (0, 0)), (yb, Obj.cells ⟨u8s error320 ++ List.replicate (ycap - 10) (.int .u8 0)⟩ 5 (ycap, ycap + 1)), (db, Obj.cells ⟨u8s error320 ++ List.replicate (dcap - 10) (.int .u8 0)⟩ 5 (dcap, dcap + 1))]) (l₂ := R))
  have H := Hp.drop H (hall (by simp [ha23]))
  exact ⟨rfl, (db, dcap, yb, ycap, ob, ocap, orest), ⟨rfl, rfl, rfl, rfl, rfl, rfl, rfl, rfl, rfl, rfl, rfl, rfl, rfl, rfl, trivial⟩, hdb0, hyb0, hob0, H⟩

end Go.Proofs
