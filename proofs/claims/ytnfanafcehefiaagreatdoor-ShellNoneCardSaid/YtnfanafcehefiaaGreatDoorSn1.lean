/- A part of the claim: see the text that holds the theorem. -/
import Derived.Test.YtnfanafcehefiaaGreatDoorBzMore
import Derived.Test.YtnfanafcehefiaaGreatDoorProg
import Derived.KernelRfl
set_option linter.unusedSimpArgs false
set_option linter.unusedVariables false
namespace Go.Proofs
open Go Go.Bz
set_option maxRecDepth 100000
set_option maxHeartbeats 400000

abbrev ptr (b : Nat) : Value := .pointer (some ⟨b, 0, none⟩)
abbrev fnv (f : Nat) (first cap : Array Value) : Value := .func (.func f) first cap
abbrev str (l : List UInt8) : Value := .string ⟨⟨l⟩⟩
abbrev i64 (n : Int) : Value := .int .i64 n

theorem mx : Tryz.prog.follows .mixedOrders = true := by kernel_rfl

theorem num_ct (e : Int) (w : World) : Ct Tryz.prog 7 #[i64 e] w fun v w' => v = i64 e ∧ Hp w w' [] := by
  refine Ct.of_code mx Tryz.func7 rfl (by kernel_rfl) rfl (by kernel_rfl) ?_
  exact ⟨rfl, Hp.refl w⟩

theorem space_ct (r : Int) (w : World) : Ct Tryz.prog 9 #[.int .i32 r] w fun v w' => v = .bool (r == 32) ∧ Hp w w' [] := by
  refine Ct.of_code mx Tryz.func9 rfl (by kernel_rfl) rfl (by kernel_rfl) ?_
  exact ⟨rfl, Hp.refl w⟩

theorem ahead_ct (s f : Nat) (first cap : Array Value) (w : World) : Ct Tryz.prog 15 #[ptr s, fnv f first cap] w fun v w' => ∃ b1 b2, v = fnv 43 #[] #[ptr b1, ptr b2] ∧
    Hp w w' [(b2, .cells ⟨[fnv f first cap]⟩ 34 (0, 0)), (b1, .cells ⟨[ptr s]⟩ 22 (0, 0))] ∧ w.heap.size ≤ b1 ∧ w.heap.size ≤ b2 := by
  refine Ct.of_code mx Tryz.func15 rfl (by kernel_rfl) rfl (by kernel_rfl) ?_
  refine AL.hp (Hp.refl w) fun b1 w1 h1 H => ?_
  refine AL.hp H fun b2 w2 h2 H => ?_
  exact ⟨b1, b2, rfl, H, h1, h2⟩

theorem during_ct (s f : Nat) (first cap : Array Value) (w : World) : Ct Tryz.prog 18 #[ptr s, fnv f first cap] w fun v w' => ∃ b1 b2, v = fnv 47 #[] #[ptr b1, ptr b2] ∧
    Hp w w' [(b2, .cells ⟨[fnv f first cap]⟩ 34 (0, 0)), (b1, .cells ⟨[ptr s]⟩ 22 (0, 0))] ∧ w.heap.size ≤ b1 ∧ w.heap.size ≤ b2 := by
  refine Ct.of_code mx Tryz.func18 rfl (by kernel_rfl) rfl (by kernel_rfl) ?_
  refine AL.hp (Hp.refl w) fun b1 w1 h1 H => ?_
  refine AL.hp H fun b2 w2 h2 H => ?_
  exact ⟨b1, b2, rfl, H, h1, h2⟩

theorem number_ct (a : Addr) (w : World) : Ct Tryz.prog 34 #[.pointer (some a)] w fun v w' => ∃ b1, v = fnv 68 #[] #[ptr b1] ∧
    Hp w w' [(b1, .cells ⟨[.pointer (some a)]⟩ 56 (0, 0))] ∧ w.heap.size ≤ b1 := by
  refine Ct.of_code mx Tryz.func34 rfl (by kernel_rfl) rfl (by kernel_rfl) ?_
  refine AL.hp (Hp.refl w) fun b1 w1 h1 H => ?_
  exact ⟨b1, rfl, H, h1⟩

theorem either_ct (s f g : Nat) (first cap first' cap' : Array Value) (w : World) : Ct Tryz.prog 35 #[ptr s, fnv f first cap, fnv g first' cap'] w fun v w' => ∃ b1 b2 b3, v = fnv 69 #[] #[ptr b1, ptr b2, ptr b3] ∧
    Hp w w' [] := by
  refine Ct.of_code mx Tryz.func35 rfl (by kernel_rfl) rfl (by kernel_rfl) ?_
  refine AL.hp (Hp.refl w) fun b1 w1 h1 H => ?_
  refine AL.hp H fun b2 w2 h2 H => ?_
  refine AL.hp H fun b3 w3 h3 H => ?_
  exact ⟨b1, b2, b3, rfl, Hp.drop (M := [_, _, _]) H (by simp [h1, h2, h3])⟩

theorem event_ct (s : Nat) (k : Int) (w : World) : Ct Tryz.prog 36 #[ptr s, i64 k] w fun v w' => ∃ b1 b2, v = fnv 70 #[] #[ptr b1, ptr b2] ∧
    Hp w w' [(b1, .cells ⟨[i64 k]⟩ 3 (0, 0)), (b2, .cells ⟨[ptr s]⟩ 22 (0, 0))] ∧ w.heap.size ≤ b1 ∧ w.heap.size ≤ b2 := by
  refine Ct.of_code mx Tryz.func36 rfl (by kernel_rfl) rfl (by kernel_rfl) ?_
  refine AL.hp (Hp.refl w) fun b1 w1 h1 H => ?_
  refine AL.hp H fun b2 w2 h2 H => ?_
  exact ⟨b2, b1, rfl, H, h2, h1⟩

/-- A session's command while no world is under way. -/
theorem during1_ct (l : Value) (b1 b2 s : Nat) (set : List Value) (hset : set.length = 12) (m : Value) (w : World)
    (h1 : w.heap[b1]? = some (.cells ⟨[ptr s]⟩ 22 (0, 0))) (h3 : w.heap[s]? = some (.cells ⟨set ++ [.pointer none, m]⟩ 43 (0, 0))) :
    Ct Tryz.prog 47 #[l, ptr b1, ptr b2] w fun v w' => v = .tuple #[str [], .bool false] ∧ Hp w w' [] := by
  refine Ct.of_code mx Tryz.func47 rfl (by kernel_rfl) rfl (by kernel_rfl) ?_
  refine LD.at h1 rfl rfl ?_
  refine LD.at (off := 12) (v := .pointer none) h3 rfl ?_ ?_
  · rw [List.getElem?_append_right (by omega), hset]; rfl
  exact ⟨rfl, Hp.refl w⟩

end Go.Proofs
