/- Contracts of SetWins. -/
import Derived.Test.YtlojcgjkjinlcaaKdClose
set_option linter.unusedVariables false
set_option linter.unusedSimpArgs false
namespace Go.KD
open Go.RowKit
noncomputable def pSetWins (m : Mz) (s : Int) : Bool × Bool := if askB m s then (setWinB m s.toNat, true) else (false, false)
def setBarB (m : Mz) (s : Nat) : Bool := !setWinB m (63 - s)
noncomputable def pSetBars (m : Mz) (s : Int) : Bool × Bool := if askB m s then (setBarB m s.toNat, true) else (false, false)
def barsK (m : Mz) (k : Nat) : List Bool := (List.range k).map fun t => setBarB m t
theorem barsK_snoc (m : Mz) (k : Nat) : barsK m (k + 1) = barsK m k ++ [setBarB m k] := by simp [barsK, List.range_succ]
@[simp] theorem barsK_len (m : Mz) (k : Nat) : (barsK m k).length = k := by simp [barsK]
theorem barsK_at {m : Mz} {n k : Nat} (hk : k < n) : (barsK m n)[k]! = setBarB m k := by
  rw [getElem!_pos _ k (by simpa using hk)]; simp [barsK]
theorem ask_parts {m : Mz} {s : Int} (h : askB m s = true) : MzOk m ∧ ∃ sn : Nat, s = sn ∧ sn < 64 := by
  simp only [askB, Bool.and_eq_true] at h
  obtain ⟨s0, s1⟩ := setB_true.1 h.2
  obtain ⟨sn, rfl⟩ := Int.eq_ofNat_of_zero_le s0
  exact ⟨mazeB_true.1 h.1, sn, rfl, by omega⟩
theorem own_bool {w : World} {lo g n cap : Nat} {e : TypeId} {l : List Bool} (h : w.ownsRow lo e 1 (.slice (some ⟨g, 0, none⟩) n cap) n (bools l)) (k : Nat) (hk : k < n) (hl : l.length = n) : w.cell? ⟨g, k, none⟩ = some (.bool l[k]!) := by
  rw [h.cellAt k (by omega), bools_at (by omega)]
end Go.KD
namespace Go.Proofs.Ytlojcgjkjinlcaa
open Go.RowKit Go.KD
attribute [local go_sem] later_cell later_frozen
