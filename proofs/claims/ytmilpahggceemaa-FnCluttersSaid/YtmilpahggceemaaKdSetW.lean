/- Contracts of setWins, winning, those. -/
import Derived.Test.YtmilpahggceemaaKdWin
set_option linter.unusedVariables false
set_option linter.unusedSimpArgs false
namespace Go.KD
open Go.RowKit
def cutK (m : Mz) (s k : Nat) : List Int := (cutM m s).keys.take k ++ m.keys.drop k
theorem cutK_zero (m : Mz) (s : Nat) : cutK m s 0 = m.keys := by simp [cutK]
theorem cutK_full (m : Mz) (s : Nat) : cutK m s m.keys.length = (cutM m s).keys := by
  unfold cutK
  rw [List.drop_of_length_le (Nat.le_refl _), List.append_nil, List.take_of_length_le (by simp [cutM])]
@[simp] theorem cutK_len (m : Mz) (s k : Nat) (hk : k ≤ m.keys.length) : (cutK m s k).length = m.keys.length := by simp [cutK, cutM]; omega
theorem cutK_at (m : Mz) (s : Nat) {k : Nat} (hk : k < m.keys.length) : (cutK m s k)[k]! = m.keys[k]! := by
  unfold cutK
  rw [get_app, if_neg (by simp [cutM]; omega)]
  have : ((cutM m s).keys.take k).length = k := by simp [cutM]; omega
  rw [this, Nat.sub_self, List.drop_eq_getElem_cons hk, List.getElem!_cons_zero, getElem!_pos m.keys k hk]
theorem cutK_next (m : Mz) (s : Nat) {k : Nat} (hk : k < m.keys.length) : (cutK m s k).set k ((m.keys[k]!.toNat &&& s : Nat) : Int) = cutK m s (k + 1) := by
  unfold cutK
  have hl : ((cutM m s).keys.take k).length = k := by simp [cutM]; omega
  have hc : k < (cutM m s).keys.length := by simp [cutM]; exact hk
  rw [List.set_append_right _ _ (by omega), hl, Nat.sub_self, List.drop_eq_getElem_cons hk, List.set_cons_zero, take_snoc hc, List.append_assoc]
  congr 1
  rw [getElem!_pos (cutM m s).keys k hc, getElem!_pos m.keys k hk]
  simp [cutM]
end Go.KD
namespace Go.Proofs.Ytmilpahggceemaa
open Go.RowKit Go.KD
attribute [local go_sem] later_cell later_frozen
