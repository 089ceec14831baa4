/- Contracts of counting bits. -/
import Derived.Test.YtldogbahbjompaaKdWorks
import Derived.Test.YtldogbahbjompaaKdMore
set_option linter.unusedVariables false
set_option linter.unusedSimpArgs false
namespace Go.Proofs.Ytldogbahbjompaa
open Go.RowKit Go.KD
attribute [local go_sem] later_cell later_frozen
theorem onesCount64N_c (x : Nat) (hx : x < 4096) (w : World) : Calls Try.prog 149 #[.int .u64 x] w fun e w' => e = .returned (.int .i64 (popc x)) ∧ w' = w := by
  go_enter Try.func149, Try.ntmps149
  go_wp2
  go_ret
  refine ⟨ret_int ?_, rfl⟩
  clear w
  obtain ⟨a, b, ha, hb, rfl⟩ : ∃ a b, a < 64 ∧ b < 64 ∧ x = 64 * a + b := ⟨x / 64, x % 64, by omega, by omega, by omega⟩
  clear hx
  revert b
  revert a
  decide +kernel
end Go.Proofs.Ytldogbahbjompaa
