/- A part of the claim: see the text that holds the theorem. -/
import Derived.Test.YtnfanafcehefiaaGreatDoorSn10
set_option linter.unusedSimpArgs false
set_option linter.unusedVariables false
namespace Go.Proofs
open Go Go.Bz
set_option maxRecDepth 100000
set_option maxHeartbeats 1000000

abbrev error320 : List UInt8 := [101, 114, 114, 111, 114, 32, 51, 50, 48, 10]

/-- What is answered, in memory of its own. -/
def Said (w w' : World) (v : Value) (l : List UInt8) : Prop :=
  ∃ b cap, v = .tuple #[.slice (some ⟨b, 0, none⟩) l.length cap, i64 0] ∧ Hp w w' [(b, .cells ⟨u8s l ++ List.replicate (cap - l.length) (.int .u8 0)⟩ 5 (cap, cap + 1))] ∧ w.heap.size ≤ b ∧ l.length ≤ cap

theorem line_unknown_ct (s b o cap m clock : Nat) (n : Int) (l r : List UInt8) (c : UInt8) (ws : List (List UInt8)) (cs : List Value) (t : TypeId) (f : Nat × Nat) (es : List MapEntry) (kvs : List (List UInt8 × Value))
    {gt : TypeId} (g : List Value) (gf : Nat × Nat) (hgc : g[2]? = some (u64 100)) (w : World)
    (hb : w.heap[b]? = some (.cells ⟨cs⟩ t f)) (hoc : o + l.length ≤ cs.length)
    (hl : (cs.drop o).take l.length = u8s l) (hlen : l.length ≤ 65536) (ha : ∀ c ∈ l, c.toNat < 128) (hf : fields l = (c :: r) :: ws) (hc : c ≠ 35)
    (hs : w.heap[s]? = some (.cells ⟨shellCells n (.map (some m))⟩ 43 (0, 0))) (hm : w.heap[m]? = some (.map ⟨es⟩ clock)) (hms : MapIs strEnc es clock kvs) (hno : assoc kvs (c :: r) = none)
    (hg : w.heap[1]? = some (.cells ⟨g⟩ gt gf)) :
    Ct Tryz.prog 4 #[ptr s, .slice (some ⟨b, o, none⟩) l.length cap] w fun v w' => Said w w' v error320 := by
  refine Ct.of_code mx Tryz.func4 rfl (by kernel_rfl) rfl (by kernel_rfl) ?_
  refine IFB.mk (fun h => ?_) (fun _ => ?_)
  · simp at h; omega
  refine CNV.toStr (l := l) rfl rfl rfl ((Hp.refl w).know hb (by simp)) 0 (o := o) rfl rfl hoc hl ?_
  refine CALLW.ct (fields_ct l hlen ha _) fun v w1 hv => ?_
  obtain ⟨wb, rfl, H, hwb⟩ := hv
  rw [hf] at H ⊢
  refine IXA.slice (n := 0) (sz := 1) rfl rfl ⟨Int.le_refl _, by simp⟩ ?_
  refine LD.hp H 0 (off := 0) (v := str (c :: r)) rfl rfl rfl ?_
  refine IX.str (n := 0) (c := c) rfl (by decide) rfl ?_
  refine IFB.mk (fun h => ?_) (fun _ => ?_)
  · exfalso
    have h1 : ((c.toNat : Nat) : Int) = 35 := by simpa using h
    have h' : c.toNat = 35 := by omega
    exact hc (UInt8.toNat_inj.1 h')
  refine DRAW.plan (pl [] [0, 1, 2, 3, 4, 5, 6, 7, 8, 9, 10, 11, 12]) (by kernel_rfl) fun w2 e1 e2 e3 e4 => ?_
  have H := H.same e1 e2 e3 e4
  have hwbs : ∀ k o', w.heap[k]? = some o' → wb ≠ k := fun k o' h e => by
    subst e; exact absurd (heap_lt h) (Nat.not_lt.2 hwb)
  have old : ∀ k o', w.heap[k]? = some o' → w2.heap[k]? = some o' := fun k o' h => by
    rw [H.old k (heap_lt h) (by simp; exact hwbs k o' h)]; exact h
  refine LD.at (off := 13) (v := .map (some m)) (old s _ hs) rfl rfl ?_
  refine IXA.slice (n := 0) (sz := 1) rfl rfl ⟨Int.le_refl _, by simp⟩ ?_
  refine LD.hp H 0 (off := 0) (v := str (c :: r)) rfl rfl rfl ?_
  have Hm := (H.know (old m _ hm) (by simp; exact hwbs m _ hm))
  refine LKP.hp Hm 0 strEnc_ok rfl rfl rfl rfl hms.kv (k := c :: r) (fun v h => ?_) (fun _ => ?_)
  · rw [hno] at h; cases h
  refine CALLW.ct (refused320_ct g gf hgc _ (old 1 _ hg)) fun v w3 hv => ?_
  obtain ⟨rfl, H3⟩ := hv
  have H := Hp.drop (M := [_]) (H.pure H3) (by simp [hwb])
  refine CNV.bytes (l := error320) rfl rfl rfl H fun b' w4 cap' hcap hb' H => ?_
  exact ⟨b', cap', rfl, H, hb', hcap⟩

end Go.Proofs
