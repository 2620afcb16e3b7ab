/- A part of the claim: see the text that holds the theorem. -/
import Derived.Test.YtnfanafcehefiaaGreatDoorSn2
import Derived.Test.YtnfanafcehefiaaGreatDoorBzStr
set_option linter.unusedSimpArgs false
set_option linter.unusedVariables false
namespace Go.Proofs
open Go Go.Bz
set_option maxRecDepth 100000
set_option maxHeartbeats 400000

abbrev u64 (n : Int) : Value := .int .u64 n

theorem len64_ct (w : World) : Ct Tryz.prog 166 #[u64 320] w fun v w' => v = i64 9 ∧ Hp w w' [] := by
  refine Ct.of_code mx Tryz.func166 rfl (by kernel_rfl) rfl (by kernel_rfl) ?_
  refine CNV.int (k' := .u8) rfl rfl ?_
  refine IX.str (n := 1) (c := 1) rfl (by decide) rfl ?_
  refine CNV.int (k' := .i64) rfl rfl ?_
  exact ⟨rfl, Hp.refl w⟩

theorem log10_ct (w : World) : Ct Tryz.prog 165 #[i64 9] w fun v w' => v = i64 2 ∧ Hp w w' [] := by
  refine Ct.of_code mx Tryz.func165 rfl (by kernel_rfl) rfl (by kernel_rfl) ?_
  exact ⟨rfl, Hp.refl w⟩

theorem bool2_ct (b : Bool) (w : World) : Ct Tryz.prog 167 #[.bool b] w fun v w' => v = i64 (if b then 1 else 0) ∧ Hp w w' [] := by
  refine Ct.of_code mx Tryz.func167 rfl (by kernel_rfl) rfl (by kernel_rfl) ?_
  cases b
  · exact ⟨rfl, Hp.refl w⟩
  · exact ⟨rfl, Hp.refl w⟩

theorem small_ct (w : World) : Ct Tryz.prog 111 #[i64 2] w fun v w' => v = str [50] ∧ Hp w w' [] := by
  refine Ct.of_code mx Tryz.func111 rfl (by kernel_rfl) rfl (by kernel_rfl) ?_
  refine SLC.str rfl (a := 2) (b := 3) ⟨rfl, ⟨_, rfl⟩, ⟨_, rfl⟩, by omega, by decide, Nat.le_refl _⟩ ?_
  exact ⟨rfl, Hp.refl w⟩

theorem digits_ct {gt : TypeId} (c : List Value) (f : Nat × Nat) (hc : c[2]? = some (u64 100)) (w : World) (hg : w.heap[1]? = some (.cells ⟨c⟩ gt f)) :
    Ct Tryz.prog 112 #[u64 320] w fun v w' => v = i64 3 ∧ Hp w w' [] := by
  refine Ct.of_code mx Tryz.func112 rfl (by kernel_rfl) rfl (by kernel_rfl) ?_
  have H := (Hp.refl w).know hg (by simp)
  refine CALLW.ct (len64_ct _) fun v w1 hv => ?_
  obtain ⟨rfl, H1⟩ := hv
  refine CALLW.ct (log10_ct _) fun v w2 hv => ?_
  obtain ⟨rfl, H2⟩ := hv
  have H := (H.pure H1).pure H2
  refine IXA.arr rfl rfl (n := 2) (by decide) ?_
  refine LD.hp H 0 (off := 2) rfl rfl hc ?_
  refine CALLW.ct (bool2_ct _ _) fun v w3 hv => ?_
  obtain ⟨rfl, H3⟩ := hv
  exact ⟨rfl, Hp.forget (H.pure H3) hg⟩

theorem base10_ct (b : Nat) (c : List Value) (w : World) (t : TypeId) (hb : w.heap[b]? = some (.cells ⟨c⟩ t (0, 0))) (hc : c.length = 24) :
    Ct Tryz.prog 113 #[.slice (some ⟨b, 1, none⟩) 3 23, u64 320] w fun v w' => v = .tuple #[] ∧ Hp w w' [(b, .cells ⟨((c.set 3 (.int .u8 48)).set 2 (.int .u8 50)).set 1 (.int .u8 51)⟩ t (0, 0))] := by
  refine Ct.of_code mx Tryz.func113 rfl (by kernel_rfl) rfl (by kernel_rfl) ?_
  have H := (Hp.refl w).know hb (by simp)
  refine LOOP.rule (fun _ : Unit => [(4, i64 3), (1, u64 320)]) (fun _ w' => w' = w) (fun _ => 0) () ⟨rfl, rfl, trivial⟩ rfl ?_
  rintro ⟨⟩ w1 h rfl
  refine CNV.int (k' := .u32) rfl rfl ?_
  refine DRAW.plan (pl [12, 14] [0, 1, 2, 3, 4, 5, 6, 7, 8, 9, 10, 11, 12, 13, 14]) (by kernel_rfl) fun w2 e1 e2 e3 e4 => ?_
  have H := H.same e1 e2 e3 e4
  refine IX.str (n := 41) (c := 48) rfl (by decide) rfl ?_
  refine IX.str (n := 40) (c := 50) rfl (by decide) rfl ?_
  refine IXA.slice (n := 2) (sz := 1) rfl rfl (by decide) ?_
  refine ⟨rfl, ST.hp H 0 (off := 3) (v := .int .u8 48) rfl rfl (by omega) rfl rfl fun w3 H => ?_⟩
  refine IXA.slice (n := 1) (sz := 1) rfl rfl (by decide) ?_
  refine ⟨rfl, ST.hp H 0 (off := 2) (v := .int .u8 50) rfl rfl (by rw [List.length_set]; omega) rfl rfl fun w4 H => ?_⟩
  refine CNV.int (k' := .u8) rfl rfl ?_
  refine IXA.slice (n := 0) (sz := 1) rfl rfl (by decide) ?_
  refine ⟨rfl, ST.hp H 0 (off := 1) (v := .int .u8 51) rfl rfl (by rw [List.length_set, List.length_set]; omega) rfl rfl fun w5 H => ?_⟩
  exact ⟨rfl, H⟩
theorem format2_ct (w : World) : Ct Tryz.prog 71 #[i64 2, i64 10] w fun v w' => v = str [50] ∧ Hp w w' [] := by
  refine Ct.of_code mx Tryz.func71 rfl (by kernel_rfl) rfl (by kernel_rfl) ?_
  refine CALLW.ct (small_ct _) fun v w1 hv => ?_
  obtain ⟨rfl, H1⟩ := hv
  exact ⟨rfl, H1⟩

theorem format320_ct {gt : TypeId} (c : List Value) (f : Nat × Nat) (hc : c[2]? = some (u64 100)) (w : World) (hg : w.heap[1]? = some (.cells ⟨c⟩ gt f)) :
    Ct Tryz.prog 71 #[i64 320, i64 10] w fun v w' => v = str [51, 50, 48] ∧ Hp w w' [] := by
  refine Ct.of_code mx Tryz.func71 rfl (by kernel_rfl) rfl (by kernel_rfl) ?_
  refine AL.hp ((Hp.refl w).know hg (by simp)) fun b w1 h1 H => ?_
  refine CNV.int (k' := .u64) rfl rfl ?_
  refine CALLW.ct (digits_ct c f hc _ (H.at 1 rfl)) fun v w2 hv => ?_
  obtain ⟨rfl, H2⟩ := hv
  have H := H.pure H2
  have H : Hp w w2 [(b, .cells ⟨List.replicate 24 (.int .u8 0)⟩ _ (0, 0)), (1, .cells ⟨c⟩ gt f)] := H
  refine SLC.arr (l := 1) (h := 4) (m := 24) (sz := 1) rfl rfl ⟨rfl, ⟨_, rfl⟩, ⟨_, rfl⟩, by decide, by decide, by decide⟩ ?_
  refine CALLW.ct (base10_ct b _ _ _ (H.at 0 rfl) rfl) fun v w3 hv => ?_
  obtain ⟨rfl, H3⟩ := hv
  have H := H.mod 0 rfl H3
  refine SLC.arr (l := 1) (h := 4) (m := 24) (sz := 1) rfl rfl ⟨rfl, ⟨_, rfl⟩, ⟨_, rfl⟩, by decide, by decide, by decide⟩ ?_
  refine CNV.toStr (l := [51, 50, 48]) rfl rfl rfl H 0 (o := 1) rfl rfl (by decide) rfl ?_
  exact ⟨rfl, Hp.forget (Hp.drop (M := [(b, _)]) H (by simp [h1])) hg⟩

theorem itoa2_ct (w : World) : Ct Tryz.prog 13 #[i64 2] w fun v w' => v = str [50] ∧ Hp w w' [] := by
  refine Ct.of_code mx Tryz.func13 rfl (by kernel_rfl) rfl (by kernel_rfl) ?_
  refine CALLW.ct (R := fun v w' => v = str [50] ∧ Hp w w' []) ?_ fun v w1 hv => ?_
  · refine Ct.of_code mx Tryz.func37 rfl (by kernel_rfl) rfl (by kernel_rfl) ?_
    refine CALLW.ct (format2_ct _) fun v w1 hv => ?_
    obtain ⟨rfl, H1⟩ := hv
    exact ⟨rfl, H1⟩
  obtain ⟨rfl, H1⟩ := hv
  exact ⟨rfl, H1⟩

theorem itoa320_ct {gt : TypeId} (c : List Value) (f : Nat × Nat) (hc : c[2]? = some (u64 100)) (w : World) (hg : w.heap[1]? = some (.cells ⟨c⟩ gt f)) :
    Ct Tryz.prog 13 #[i64 320] w fun v w' => v = str [51, 50, 48] ∧ Hp w w' [] := by
  refine Ct.of_code mx Tryz.func13 rfl (by kernel_rfl) rfl (by kernel_rfl) ?_
  refine CALLW.ct (R := fun v w' => v = str [51, 50, 48] ∧ Hp w w' []) ?_ fun v w1 hv => ?_
  · refine Ct.of_code mx Tryz.func37 rfl (by kernel_rfl) rfl (by kernel_rfl) ?_
    refine CALLW.ct (format320_ct c f hc _ hg) fun v w1 hv => ?_
    obtain ⟨rfl, H1⟩ := hv
    exact ⟨rfl, H1⟩
  obtain ⟨rfl, H1⟩ := hv
  exact ⟨rfl, H1⟩

/-- "error 2\n" -/
theorem refused2_ct (w : World) : Ct Tryz.prog 10 #[i64 2] w fun v w' => v = str [101, 114, 114, 111, 114, 32, 50, 10] ∧ Hp w w' [] := by
  refine Ct.of_code mx Tryz.func10 rfl (by kernel_rfl) rfl (by kernel_rfl) ?_
  refine CALLW.ct (itoa2_ct _) fun v w1 hv => ?_
  obtain ⟨rfl, H1⟩ := hv
  refine ⟨?_, H1⟩
  exact congrArg Value.string ((congrArg (· ++ _) (append_mk _ _)).trans (append_mk _ _))

theorem refused320_ct {gt : TypeId} (c : List Value) (f : Nat × Nat) (hc : c[2]? = some (u64 100)) (w : World) (hg : w.heap[1]? = some (.cells ⟨c⟩ gt f)) :
    Ct Tryz.prog 10 #[i64 320] w fun v w' => v = str [101, 114, 114, 111, 114, 32, 51, 50, 48, 10] ∧ Hp w w' [] := by
  refine Ct.of_code mx Tryz.func10 rfl (by kernel_rfl) rfl (by kernel_rfl) ?_
  refine CALLW.ct (itoa320_ct c f hc _ hg) fun v w1 hv => ?_
  obtain ⟨rfl, H1⟩ := hv
  refine ⟨?_, H1⟩
  exact congrArg Value.string ((congrArg (· ++ _) (append_mk _ _)).trans (append_mk _ _))

end Go.Proofs
