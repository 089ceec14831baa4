/- ActsAt. -/
import Derived.Test.YtldogbahbjompaaKdActs3
import Derived.Test.YtldogbahbjompaaKdActs4
set_option linter.unusedVariables false
set_option linter.unusedSimpArgs false
namespace Go.KD
noncomputable def pActsAt (m : Wk) (x l : Int) : List Int × Bool := if visitB m x l then (actsL m x l, true) else ([], false)
theorem actsL_len (m : Wk) (x l : Int) : (actsL m x l).length ≤ 41 := by
  have := memK_len (nbK m.gates x l m.gates.length) 40
  unfold actsL
  rw [List.length_append, mem_eq]
  split <;> simp <;> omega
theorem pActsAt_len (m : Wk) (x l : Int) : (pActsAt m x l).1.length ≤ 1000000 := by
  have := actsL_len m x l
  unfold pActsAt; split
  · show (actsL m x l).length ≤ _; omega
  · simp
theorem visit_parts {m : Wk} {x l : Int} (h : visitB m x l = true) : WkOk m ∧ ∃ xn ln : Nat, x = xn ∧ l = ln ∧ (xn : Int) < m.size ∧ ln < 64 := by
  simp only [visitB, Bool.and_eq_true] at h
  obtain ⟨⟨h1, h2⟩, h3⟩ := h
  obtain ⟨x0, x1⟩ := inB_true.1 h2
  obtain ⟨l0, l1⟩ := setB_true.1 h3
  obtain ⟨xn, rfl⟩ := Int.eq_ofNat_of_zero_le x0
  obtain ⟨ln, rfl⟩ := Int.eq_ofNat_of_zero_le l0
  exact ⟨worksB_true.1 h1, xn, ln, rfl, rfl, by omega, by omega⟩
end Go.KD
namespace Go.Proofs.Ytldogbahbjompaa
open Go.RowKit Go.KD
attribute [local go_sem] later_cell later_frozen
