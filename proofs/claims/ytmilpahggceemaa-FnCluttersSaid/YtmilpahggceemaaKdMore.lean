/- More words for the walks; no program is named here. -/
import Derived.Test.YtmilpahggceemaaKdPure
namespace Go.KD
open Go.RowKit
/-- A slice that was written out. -/
theorem ic_lit (w : World) (T : TypeId) (c : Array Value) (l : List Int) (n : Nat) (hn : n = w.heap.size) (h : c = (ints l).toArray) : IC (w.alloc (.cells c T)) (some ⟨n, 0, none⟩) l := by
  intro k hk
  refine ⟨n, 0, rfl, by simp [hn], ?_⟩
  rw [Nat.zero_add, World.cell?_alloc_at c T n k hn, h, List.getElem?_toArray, ints, List.getElem?_map, List.getElem?_eq_getElem hk, getElem!_pos l k hk]
  rfl
theorem run_callFunc {P : Program} {F : FuncId} {fn : Func} (hf1 : P.funcs[F]? = some fn) (hf2 : (fn.name == "runtime.NumGoroutine") = false) (hf3 : fn.body.isNone = false) (args : Array Value) (w : World) :
    Sem.run P (callFunc F args) w = .ok (.enter F args) w := by
  show Sem.run P (match P.funcs[F]? with | none => stuck "call: no such function" | some fn => _) w = _
  rw [hf1]
  simp only [hf2, hf3, Bool.false_eq_true, if_false]
  rfl
theorem szMzP_le {d k : Nat} (h : ¬ szMzP 1048576 d k < 0) : d ≤ 1048576 ∧ k ≤ 1048576 := by
  by_cases h1 : (1048576 : Int) - d < 0
  · exact absurd (by unfold szMzP szP; rw [if_pos (by rw [if_pos h1]; omega)]; omega) h
  · have e : szP 1048576 d = 1048576 - d := by unfold szP; rw [if_neg h1]
    by_cases h2 : (1048576 : Int) - d - k < 0
    · exact absurd (by unfold szMzP; rw [e, if_neg h1]; unfold szP; rw [if_pos h2]; omega) h
    · omega
/-- How many bits of a number below 4096 are set. -/
def popN (x : Nat) : Nat := ((List.range 12).filter fun i => x.testBit i).length
def popc (x : Nat) : Int := popN x
theorem popN_le (x : Nat) : popN x ≤ 12 := by
  unfold popN
  exact Nat.le_trans (List.length_filter_le _ _) (by simp)
theorem popc_le (x : Nat) : popc x ≤ 12 := by have := popN_le x; unfold popc; omega
theorem pop_half : ∀ n, n < 64 → popN n = n % 2 + popN (n / 2) := by decide +kernel
theorem pop_le6 : ∀ n, n < 64 → popN n ≤ 6 := by decide +kernel
theorem and_one : ∀ n : Nat, n < 64 → bits BinOp.and IntKind.i64 (n : Int) 1 = ((n % 2 : Nat) : Int) := by decide +kernel
theorem popN_zero : popN 0 = 0 := by decide
theorem ret_tup2 {a b : Array Value} (h : a = b) : Ending.returned (.tuple a) = .returned (.tuple b) := by rw [h]
end Go.KD
