/- Contract of impl.reach. -/
import Derived.Test.YtldogbahbjompaaKdQueue
import Derived.Test.YtldogbahbjompaaKdReach
import Derived.Deep.RegionHeld3
set_option linter.unusedVariables false
set_option linter.unusedSimpArgs false
namespace Go.KD
open Go.RowKit
def lenV : Value → Nat
  | .slice _ n _ => n
  | _ => 0
theorem lenV_slice (a : Option Addr) (n c : Nat) : lenV (.slice a n c) = n := rfl
end Go.KD
namespace Go.Proofs.Ytldogbahbjompaa
open Go.RowKit Go.KD
attribute [local go_sem] later_cell later_frozen
