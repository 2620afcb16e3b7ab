/- A part of the claim: see the text that holds the theorem. -/
import Derived.Test.YtnfanafcehefiaaGreatDoorSn8
set_option linter.unusedSimpArgs false
set_option linter.unusedVariables false
namespace Go.Proofs
open Go Go.Bz
set_option maxRecDepth 100000
set_option maxHeartbeats 1000000

theorem row72 : Extern.find Tryz.f72 = some Extern.BytealgIndexByte.indexByte := by kernel_rfl
theorem row72n : (Extern.findNext Tryz.f72).isNone = true := by kernel_rfl

theorem indexByte_ct (b o cap : Nat) (l : List UInt8) (cs : List Value) (t : TypeId) (f : Nat × Nat) (w : World) (hb : w.heap[b]? = some (.cells ⟨cs⟩ t f)) (hl : (cs.drop o).take l.length = u8s l) :
    Ct Tryz.prog 38 #[.slice (some ⟨b, o, none⟩) l.length cap, .int .u8 10] w fun v w' => v = i64 (idxB l 10) ∧ Hp w w' [] := by
  refine Ct.of_code mx Tryz.func38 rfl (by kernel_rfl) rfl (by kernel_rfl) ?_
  have H := (Hp.refl w).know hb (by simp)
  refine CALLW.indexByte (c := 10) Tryz.func72 rfl (by kernel_rfl) row72n row72 H 0 rfl hl ?_
  exact ⟨rfl, Hp.forget H hb⟩

theorem index_ct (b o cap sb scap : Nat) (l : List UInt8) (cs : List Value) (t t' : TypeId) (f f' : Nat × Nat) (w : World) (hb : w.heap[b]? = some (.cells ⟨cs⟩ t f)) (hl : (cs.drop o).take l.length = u8s l)
    (hs : w.heap[sb]? = some (.cells ⟨[.int .u8 10]⟩ t' f')) :
    Ct Tryz.prog 14 #[.slice (some ⟨b, o, none⟩) l.length cap, .slice (some ⟨sb, 0, none⟩) 1 scap] w fun v w' => v = i64 (idxB l 10) ∧ Hp w w' [] := by
  refine Ct.of_code mx Tryz.func14 rfl (by kernel_rfl) rfl (by kernel_rfl) ?_
  refine IXA.slice (n := 0) (sz := 1) rfl rfl (by decide) ?_
  refine LD.at (off := 0) (v := .int .u8 10) hs rfl rfl ?_
  refine CALLW.ct (indexByte_ct b o cap l cs t f _ hb hl) fun v w1 hv => ?_
  obtain ⟨rfl, H⟩ := hv
  exact ⟨rfl, H⟩

theorem cut_found_ct (b o cap sb scap i : Nat) (l : List UInt8) (cs : List Value) (t t' : TypeId) (f f' : Nat × Nat) (w : World) (hb : w.heap[b]? = some (.cells ⟨cs⟩ t f)) (hl : (cs.drop o).take l.length = u8s l)
    (hs : w.heap[sb]? = some (.cells ⟨[.int .u8 10]⟩ t' f')) (hi : idxB l 10 = i) (hil : i < l.length) (hlc : l.length ≤ cap) (hic : i + 1 < cap) (hbig : cap < 1000000) :
    Ct Tryz.prog 11 #[.slice (some ⟨b, o, none⟩) l.length cap, .slice (some ⟨sb, 0, none⟩) 1 scap] w fun v w' =>
      v = .tuple #[.slice (some ⟨b, o, none⟩) i cap, .slice (some ⟨b, o + (i + 1), none⟩) (l.length - (i + 1)) (cap - (i + 1)), .bool true] ∧ Hp w w' [] := by
  refine Ct.of_code mx Tryz.func11 rfl (by kernel_rfl) rfl (by kernel_rfl) ?_
  refine CALLW.ct (index_ct b o cap sb scap l cs t t' f f' _ hb hl hs) fun v w1 hv => ?_
  obtain ⟨rfl, H⟩ := hv
  rw [hi]
  refine DRAW.plan (pl [] [0, 1, 2, 3, 4, 5, 6, 7, 8, 9, 10, 11]) (by kernel_rfl) fun w2 e1 e2 e3 e4 => ?_
  have H := H.same e1 e2 e3 e4
  refine SLC.slice (l := 0) (h := i) (m := cap) (sz := 1) rfl rfl ⟨rfl, ⟨_, rfl⟩, rfl, by omega, by omega, Nat.le_refl _⟩ ?_
  have hw : IntKind.i64.wrap ((i : Int) + 1) = ((i + 1 : Nat) : Int) := by rw [wrap_i64 (by omega) (by omega)]; omega
  refine SLC.slice (l := i + 1) (h := l.length) (m := cap) (sz := 1) rfl rfl ⟨rfl, ⟨rfl, rfl⟩, ⟨.i64, congrArg i64 hw⟩, by omega, by omega, Nat.le_refl _⟩ ?_
  refine ⟨?_, H⟩
  show Value.tuple #[.slice (if cap = 0 then some ⟨b, o, none⟩ else (some (⟨b, o, none⟩ : Addr)).map (·.add (0 * 1))) (i - 0) (cap - 0),
    .slice (if cap = i + 1 then some ⟨b, o, none⟩ else (some (⟨b, o, none⟩ : Addr)).map (·.add ((i + 1) * 1))) (l.length - (i + 1)) (cap - (i + 1)), .bool true] = _
  rw [if_neg (by omega), if_neg (by omega), Option.map_some, Option.map_some, Addr.add_none, Addr.add_none]
  simp

theorem cut_none_ct (b o cap sb scap : Nat) (l : List UInt8) (cs : List Value) (t t' : TypeId) (f f' : Nat × Nat) (w : World) (hb : w.heap[b]? = some (.cells ⟨cs⟩ t f)) (hl : (cs.drop o).take l.length = u8s l)
    (hs : w.heap[sb]? = some (.cells ⟨[.int .u8 10]⟩ t' f')) (hi : idxB l 10 = -1) :
    Ct Tryz.prog 11 #[.slice (some ⟨b, o, none⟩) l.length cap, .slice (some ⟨sb, 0, none⟩) 1 scap] w fun v w' =>
      v = .tuple #[.slice (some ⟨b, o, none⟩) l.length cap, .slice none 0 0, .bool false] ∧ Hp w w' [] := by
  refine Ct.of_code mx Tryz.func11 rfl (by kernel_rfl) rfl (by kernel_rfl) ?_
  refine CALLW.ct (index_ct b o cap sb scap l cs t t' f f' _ hb hl hs) fun v w1 hv => ?_
  obtain ⟨rfl, H⟩ := hv
  rw [hi]
  exact ⟨rfl, H⟩

end Go.Proofs
