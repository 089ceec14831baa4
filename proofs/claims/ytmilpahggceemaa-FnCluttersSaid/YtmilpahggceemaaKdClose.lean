/- Contracts of the reference's l2Close and l6Wins. -/
import Derived.Test.YtmilpahggceemaaKdReach3
import Derived.Test.YtmilpahggceemaaKdOwn2
set_option linter.unusedVariables false
set_option linter.unusedSimpArgs false
namespace Go.KD
open Go.RowKit
def bools (l : List Bool) : List Value := l.map .bool
@[simp] theorem length_bools (l : List Bool) : (bools l).length = l.length := by simp [bools]
theorem bools_snoc (l : List Bool) (b : Bool) : bools (l ++ [b]) = bools l ++ [.bool b] := by simp [bools]
def winsK (m : Mz) (k : Nat) : List Bool := (List.range k).map fun t => setWinB m t
theorem winsK_snoc (m : Mz) (k : Nat) : winsK m (k + 1) = winsK m k ++ [setWinB m k] := by simp [winsK, List.range_succ]
@[simp] theorem winsK_len (m : Mz) (k : Nat) : (winsK m k).length = k := by simp [winsK]
theorem bools_at {l : List Bool} {k : Nat} (hk : k < l.length) : (bools l)[k]? = some (.bool l[k]!) := by
  rw [bools, List.getElem?_map, List.getElem?_eq_getElem hk, getElem!_pos l k hk]; rfl
theorem winsK_at {m : Mz} {n k : Nat} (hk : k < n) : (winsK m n)[k]! = setWinB m k := by
  rw [getElem!_pos _ k (by simpa using hk)]; simp [winsK]
end Go.KD
namespace Go.Proofs.Ytmilpahggceemaa
open Go.RowKit Go.KD
attribute [local go_sem] later_cell later_frozen
theorem infoB : (Try.prog.info? 4).map (fun i => (i.zero, i.size, i.bytes)) = some (some (.bool false), 1, 1) := by kernel_rfl
