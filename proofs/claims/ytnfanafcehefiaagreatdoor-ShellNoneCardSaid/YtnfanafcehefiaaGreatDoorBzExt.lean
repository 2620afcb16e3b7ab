/- A part of the claim: see the text that holds the theorem. -/
import Derived.Test.YtnfanafcehefiaaGreatDoorBzStr
set_option linter.unusedSimpArgs false
set_option linter.unusedVariables false
/-! Functions without a body: the model's own rows. -/
namespace Go.Bz

theorem CALLW.row {P : Program} {g : FuncId} {fn : Func} {args : Array Value} {w : World} {ds : List Deferred} {K : Value → List Deferred → World → Prop} {e : Array Value → Sem Value}
    (hf : P.funcs[g]? = some fn) (hb : fn.body.isNone = true) (hnum : (fn.name == "runtime.NumGoroutine") = false) (hnx : (Extern.findNext fn).isNone = true) (hrow : Extern.find fn = some e)
    (h : semE P (e args) (fun v w' => K v ds w') w) : CALLW P g args ds K w := by
  refine CALLW.ext ?_
  unfold callFunc
  show semE P (program >>= _) _ w
  rw [semE_bind]
  show semE P (match P.funcs[g]? with | none => _ | some fn => _) _ w
  rw [hf]
  dsimp only
  rw [hnum, hb]
  simp only [Bool.false_eq_true, if_false, if_true]
  show semE P (mark _ >>= _) _ w
  rw [semE_bind]
  have hnx' : Extern.findNext fn = none := by simpa using hnx
  rw [hnx', hrow]
  dsimp only
  show semE P (e args >>= fun v => pure (Next.value v)) _ w
  rw [semE_bind]
  exact h

theorem loadBytes_hp {P : Program} {w : World} {b : Nat} {c : List Value} {t : TypeId} {f : Nat × Nat} (hb : w.heap[b]? = some (.cells ⟨c⟩ t f)) {K : ByteArray → Prop} :
    ∀ (l : List UInt8) (o : Nat) (acc : List UInt8), (c.drop o).take l.length = u8s l → K ⟨⟨acc ++ l⟩⟩ → readE P (Extern.Bytes.loadBytes ⟨b, o, none⟩ l.length ⟨⟨acc⟩⟩) K w := by
  intro l
  induction l with
  | nil => intro o acc _ hk; rw [List.append_nil] at hk; exact hk
  | cons x l ih =>
    intro o acc hc hk
    have hd : c.drop o ≠ [] := fun h => by rw [h] at hc; simp at hc
    obtain ⟨y, r, hr⟩ := List.exists_cons_of_ne_nil hd
    rw [hr, List.length_cons, List.take_succ_cons] at hc
    simp only [u8s, List.map_cons, List.cons.injEq] at hc
    obtain ⟨rfl, hc⟩ := hc
    have hcell : w.cell? ⟨b, o, none⟩ = some (.int .u8 x.toNat) := by
      rw [cell_of hb]
      have := congrArg (·[0]?) hr
      simpa using this
    have hdrop : c.drop (o + 1) = r := by
      have := congrArg (List.drop 1) hr
      simpa [List.drop_drop] using this
    show readE P (load _ >>= _) K w
    rw [readE_bind]
    show LD _ _ _
    unfold LD
    refine ⟨_, hcell, ?_⟩
    show readE P (Extern.Bytes.loadBytes ((⟨b, o, none⟩ : Addr).add 1) l.length ((⟨⟨acc⟩⟩ : ByteArray).push ((x.toNat : Int).toNat.toUInt8))) K w
    have hpush : (⟨⟨acc⟩⟩ : ByteArray).push ((x.toNat : Int).toNat.toUInt8) = ⟨⟨acc ++ [x]⟩⟩ := by
      have : ((x.toNat : Int).toNat.toUInt8) = x := by simp
      rw [this]
      exact congrArg ByteArray.mk (Array.ext' (by simp))
    rw [hpush, Addr.add_none]
    refine ih (o + 1) (acc ++ [x]) (by rw [hdrop]; exact hc) ?_
    rw [List.append_assoc]; exact hk

/-- Where a byte first stands. -/
def idxB (l : List UInt8) (c : UInt8) : Int :=
  match (List.range (⟨⟨l⟩⟩ : ByteArray).size).find? (fun i => (⟨⟨l⟩⟩ : ByteArray)[i]! == c) with
  | some i => i
  | none => -1

theorem CALLW.indexByte {P : Program} {g : FuncId} {fn : Func} {ds : List Deferred} {K : Value → List Deferred → World → Prop}
    (hf : P.funcs[g]? = some fn) (hb : fn.body.isNone = true) (hnum : (fn.name == "runtime.NumGoroutine") = false) (hnx : (Extern.findNext fn).isNone = true) (hrow : Extern.find fn = some Extern.BytealgIndexByte.indexByte)
    {w0 w : World} {L : Blks} (H : Hp w0 w L) (i : Nat) {b o cap : Nat} {cs : List Value} {t : TypeId} {f : Nat × Nat} (hi : L[i]? = some (b, .cells ⟨cs⟩ t f)) {l : List UInt8} {c : UInt8}
    (hl : (cs.drop o).take l.length = u8s l) (k : K (.int .i64 (idxB l c)) ds w) : CALLW P g #[.slice (some ⟨b, o, none⟩) l.length cap, .int .u8 c.toNat] ds K w := by
  refine CALLW.row hf hb hnum hnx hrow ?_
  show semE P (Extern.Bytes.bytesOf _ >>= _) _ w
  rw [semE_bind]
  refine semE_of_read (loadBytes_hp (H.at i hi) l o [] hl ?_)
  show semE P (Extern.Bytes.asByte _ >>= _) _ w
  rw [semE_bind]
  have hc : ((c.toNat : Int).toNat.toUInt8) = c := by simp
  show semE P (match (List.range (⟨⟨[] ++ l⟩⟩ : ByteArray).size).find? (fun i => (⟨⟨[] ++ l⟩⟩ : ByteArray)[i]! == ((c.toNat : Int).toNat.toUInt8)) with
    | some i => pure (goInt i)
    | none => pure (goInt (-1)) : Sem Value) _ w
  rw [hc, List.nil_append]
  unfold idxB at k
  cases hfd : (List.range (⟨⟨l⟩⟩ : ByteArray).size).find? (fun i => (⟨⟨l⟩⟩ : ByteArray)[i]! == c) with
  | none => rw [hfd] at k; exact k
  | some i => rw [hfd] at k; exact k

end Go.Bz
