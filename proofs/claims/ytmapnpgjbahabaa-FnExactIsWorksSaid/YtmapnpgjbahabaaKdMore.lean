/- More words for the walks; no program is named here. -/
import Derived.Test.YtmapnpgjbahabaaKdPure
namespace Go.KD
open Go.RowKit
/-- A slice that was written out. -/
theorem ic_lit (w : World) (T : TypeId) (c : Array Value) (l : List Int) (n : Nat) (hn : n = w.heap.size) (h : c = (ints l).toArray) : IC (w.alloc (.cells c T)) (some ⟨n, 0, none⟩) l := by
  intro k hk
  refine ⟨n, 0, rfl, by simp [hn], ?_⟩
  rw [Nat.zero_add, World.cell?_alloc_at c T n k hn, h, List.getElem?_toArray, ints, List.getElem?_map, List.getElem?_eq_getElem hk, getElem!_pos l k hk]
  rfl
theorem run_callFunc {P : Program} {F : FuncId} {fn : Func} (hf1 : P.funcs[F]? = some fn) (hf2 : (fn.name == "runtime.NumGoroutine") = false) (hf3 : fn.body.isNone = false) (args : Array Value) (w : World) :
    Sem.run P (callFunc F args) w = .ok (.enter F args) w := by
  show Sem.run P (match P.funcs[F]? with | none => stuck "call: no such function" | some fn => _) w = _
  rw [hf1]
  simp only [hf2, hf3, Bool.false_eq_true, if_false]
  rfl
theorem szMzP_le {d k : Nat} (h : ¬ szMzP 1048576 d k < 0) : d ≤ 1048576 ∧ k ≤ 1048576 := by
  by_cases h1 : (1048576 : Int) - d < 0
  · exact absurd (by unfold szMzP szP; rw [if_pos (by rw [if_pos h1]; omega)]; omega) h
  · have e : szP 1048576 d = 1048576 - d := by unfold szP; rw [if_neg h1]
    by_cases h2 : (1048576 : Int) - d - k < 0
    · exact absurd (by unfold szMzP; rw [e, if_neg h1]; unfold szP; rw [if_pos h2]; omega) h
    · omega
end Go.KD
