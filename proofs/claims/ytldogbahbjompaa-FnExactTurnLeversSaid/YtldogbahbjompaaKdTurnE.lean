/- Both sides of TurnLevers; how long the answer is. -/
import Derived.Test.YtldogbahbjompaaKdTurn3
import Derived.Test.YtldogbahbjompaaKdTurn4
set_option linter.unusedVariables false
set_option linter.unusedSimpArgs false
namespace Go.KD
open Go.RowKit
theorem pTurnLevers_len (m : Wk) (l : Int) : (pTurnLevers m l).1.gates.length ≤ 100000 ∧ (pTurnLevers m l).1.pulls.length ≤ 100000 := by
  unfold pTurnLevers
  split
  · rename_i hb
    rw [Bool.and_eq_true] at hb
    have ok := worksB_true.1 hb.1
    have h1 := ok.ng
    have h2 := ok.np
    have h3 := ok.s2
    have h4 := turnL_len l m.gates
    refine ⟨?_, ?_⟩
    · show (turnL l m.gates).length ≤ 100000
      omega
    · show m.pulls.length ≤ 100000
      omega
  · exact ⟨by simp, by simp⟩
end Go.KD
