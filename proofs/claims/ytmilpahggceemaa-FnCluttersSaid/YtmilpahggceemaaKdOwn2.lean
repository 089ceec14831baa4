/- Contract of the reference's l2Own. -/
import Derived.Test.YtmilpahggceemaaKdSetW
import Derived.Test.YtmilpahggceemaaKdSwap
import Derived.Test.YtmilpahggceemaaKdPut2
set_option linter.unusedVariables false
set_option linter.unusedSimpArgs false
namespace Go
open Go.RowKit Go.KD
theorem own_empty3 {W : World} {N base size : Nat} {e : TypeId} (h : W.heap[N]? = some (.cells #[] e)) (hb : base ≤ N) : W.ownsRow base e size (.slice (some ⟨N, 0, none⟩) 0 0) 0 [] :=
  ⟨by simp, .inr ⟨N, 0, #[], rfl, hb, h, Nat.le_refl _, Nat.zero_le _, by simp, by simp⟩⟩
end Go
namespace Go.Proofs.Ytmilpahggceemaa
open Go.RowKit Go.KD
attribute [local go_sem] later_cell later_frozen
