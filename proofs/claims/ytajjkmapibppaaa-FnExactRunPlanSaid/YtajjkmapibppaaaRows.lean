/-
  No cell of these rows narrows 'for every input' (looked for: loops, veiled, ifaces, maps, wideKeys, modest, calm, conditions, laid).
  DERIVED. THE GIVEN ROWS OF THIS SEAT. 13 by the template 'for every input the law returns true; each argument reads behind the call as it read before'; 0 by the template 'total and deterministic' (their statements: YtajjkmapibppaaaTotals.lean).
  GIVEN WITH THE SEED: the statements are not yours to turn. If you find one false, say at which input.
  Laid BY PROGRAM, IN A SANDBOX (cutbox-rows.mjs): the forced cells as the released guide's own fill.sh prints them over the translation 87856b7ff3eeb6af… (all of the seat's roots in one cut). By AI agents, Wed Nov 11 2026. No macro, syntax, notation, axiom, sorry.
-/
import Derived.Test.YtajjkmapibppaaaChecked
import GoSem.Claim
import GoSem.ClaimJoined
import GoSem.ClaimMapViews
import Derived.JoinedTies
import Derived.KernelRfl
namespace Go.Proofs.Ytajjkmapibppaaa
/- THE CELL 'sum', in the pinned program and in every row, IS THE sha256 OF THE DUMP (.gsa) THAT YtajjkmapibppaaaProg.lean LOADS. Nothing in Lean hashes anything: it is a label: what it is worth is what the hold of that sum in a sandbox is worth. -/
noncomputable def Try.pinned : Pinned := { name := "ytajjkmapibppaaa", sum := "87856b7ff3eeb6af4bdbd72a5c17e764f821689eb58ba2d5469909dea6a8ea77", checked := Try.checked }
namespace Rows
def none {H : Type} : Left H := { results := [], args := [] }

/-- 'laws.FnExactActsAt': WHATEVER THE INPUT: true; the input reads as it did. -/
def fnExactActsAtSpec : ChangeSpec := { name := "fnExactActsAt", fn := fun _ => fun
  | [d1, d2, d3] => { results := [.lit (.bool true)], args := [d1, d2, d3] }
  | _ => none }
def fnExactActsAtRow : OpenClaim := { program := "ytajjkmapibppaaa", sum := "87856b7ff3eeb6af4bdbd72a5c17e764f821689eb58ba2d5469909dea6a8ea77", func := "loop.example/g01158/laws.FnExactActsAt", spec := "fnExactActsAt", unfollowed := true, recurses := true, apart := false }
def FnExactActsAtSaid : Prop := fnExactActsAtRow.holds Try.pinned (OpenSpec.ofChange fnExactActsAtSpec)

/-- ITS FALSE NEIGHBOUR: 'it returns false'. Refute it at one input. -/
def fnExactActsAtWrong : ChangeSpec := { name := "fnExactActsAt", fn := fun _ => fun
  | [d1, d2, d3] => { results := [.lit (.bool false)], args := [d1, d2, d3] }
  | _ => none }
def FnExactActsAtWrongFalsely : Prop := fnExactActsAtRow.holds Try.pinned (OpenSpec.ofChange fnExactActsAtWrong)

/-- 'laws.FnExactDoAct': WHATEVER THE INPUT: true; the input reads as it did. -/
def fnExactDoActSpec : ChangeSpec := { name := "fnExactDoAct", fn := fun _ => fun
  | [d1, d2, d3, d4] => { results := [.lit (.bool true)], args := [d1, d2, d3, d4] }
  | _ => none }
def fnExactDoActRow : OpenClaim := { program := "ytajjkmapibppaaa", sum := "87856b7ff3eeb6af4bdbd72a5c17e764f821689eb58ba2d5469909dea6a8ea77", func := "loop.example/g01158/laws.FnExactDoAct", spec := "fnExactDoAct", unfollowed := true, recurses := true, apart := false }
def FnExactDoActSaid : Prop := fnExactDoActRow.holds Try.pinned (OpenSpec.ofChange fnExactDoActSpec)

/-- ITS FALSE NEIGHBOUR: 'it returns false'. Refute it at one input. -/
def fnExactDoActWrong : ChangeSpec := { name := "fnExactDoAct", fn := fun _ => fun
  | [d1, d2, d3, d4] => { results := [.lit (.bool false)], args := [d1, d2, d3, d4] }
  | _ => none }
def FnExactDoActWrongFalsely : Prop := fnExactDoActRow.holds Try.pinned (OpenSpec.ofChange fnExactDoActWrong)

/-- 'laws.FnExactRunPlan': WHATEVER THE INPUT: true; the input reads as it did. -/
def fnExactRunPlanSpec : ChangeSpec := { name := "fnExactRunPlan", fn := fun _ => fun
  | [d1, d2] => { results := [.lit (.bool true)], args := [d1, d2] }
  | _ => none }
def fnExactRunPlanRow : OpenClaim := { program := "ytajjkmapibppaaa", sum := "87856b7ff3eeb6af4bdbd72a5c17e764f821689eb58ba2d5469909dea6a8ea77", func := "loop.example/g01158/laws.FnExactRunPlan", spec := "fnExactRunPlan", unfollowed := true, recurses := true, apart := false }
def FnExactRunPlanSaid : Prop := fnExactRunPlanRow.holds Try.pinned (OpenSpec.ofChange fnExactRunPlanSpec)

/-- ITS FALSE NEIGHBOUR: 'it returns false'. Refute it at one input. -/
def fnExactRunPlanWrong : ChangeSpec := { name := "fnExactRunPlan", fn := fun _ => fun
  | [d1, d2] => { results := [.lit (.bool false)], args := [d1, d2] }
  | _ => none }
def FnExactRunPlanWrongFalsely : Prop := fnExactRunPlanRow.holds Try.pinned (OpenSpec.ofChange fnExactRunPlanWrong)

/-- 'laws.FnExactIsPlan': WHATEVER THE INPUT: true; the input reads as it did. -/
def fnExactIsPlanSpec : ChangeSpec := { name := "fnExactIsPlan", fn := fun _ => fun
  | [d1, d2] => { results := [.lit (.bool true)], args := [d1, d2] }
  | _ => none }
def fnExactIsPlanRow : OpenClaim := { program := "ytajjkmapibppaaa", sum := "87856b7ff3eeb6af4bdbd72a5c17e764f821689eb58ba2d5469909dea6a8ea77", func := "loop.example/g01158/laws.FnExactIsPlan", spec := "fnExactIsPlan", unfollowed := true, recurses := true, apart := false }
def FnExactIsPlanSaid : Prop := fnExactIsPlanRow.holds Try.pinned (OpenSpec.ofChange fnExactIsPlanSpec)

/-- ITS FALSE NEIGHBOUR: 'it returns false'. Refute it at one input. -/
def fnExactIsPlanWrong : ChangeSpec := { name := "fnExactIsPlan", fn := fun _ => fun
  | [d1, d2] => { results := [.lit (.bool false)], args := [d1, d2] }
  | _ => none }
def FnExactIsPlanWrongFalsely : Prop := fnExactIsPlanRow.holds Try.pinned (OpenSpec.ofChange fnExactIsPlanWrong)

/-- 'laws.FnExactAreApart': WHATEVER THE INPUT: true; the input reads as it did. -/
def fnExactAreApartSpec : ChangeSpec := { name := "fnExactAreApart", fn := fun _ => fun
  | [d1, d2, d3, d4, d5] => { results := [.lit (.bool true)], args := [d1, d2, d3, d4, d5] }
  | _ => none }
def fnExactAreApartRow : OpenClaim := { program := "ytajjkmapibppaaa", sum := "87856b7ff3eeb6af4bdbd72a5c17e764f821689eb58ba2d5469909dea6a8ea77", func := "loop.example/g01158/laws.FnExactAreApart", spec := "fnExactAreApart", unfollowed := true, recurses := true, apart := false }
def FnExactAreApartSaid : Prop := fnExactAreApartRow.holds Try.pinned (OpenSpec.ofChange fnExactAreApartSpec)

/-- ITS FALSE NEIGHBOUR: 'it returns false'. Refute it at one input. -/
def fnExactAreApartWrong : ChangeSpec := { name := "fnExactAreApart", fn := fun _ => fun
  | [d1, d2, d3, d4, d5] => { results := [.lit (.bool false)], args := [d1, d2, d3, d4, d5] }
  | _ => none }
def FnExactAreApartWrongFalsely : Prop := fnExactAreApartRow.holds Try.pinned (OpenSpec.ofChange fnExactAreApartWrong)

/-- 'laws.FnExactCountVisits': WHATEVER THE INPUT: true; the input reads as it did. -/
def fnExactCountVisitsSpec : ChangeSpec := { name := "fnExactCountVisits", fn := fun _ => fun
  | [d] => { results := [.lit (.bool true)], args := [d] }
  | _ => none }
def fnExactCountVisitsRow : OpenClaim := { program := "ytajjkmapibppaaa", sum := "87856b7ff3eeb6af4bdbd72a5c17e764f821689eb58ba2d5469909dea6a8ea77", func := "loop.example/g01158/laws.FnExactCountVisits", spec := "fnExactCountVisits", unfollowed := true, recurses := true, apart := false }
def FnExactCountVisitsSaid : Prop := fnExactCountVisitsRow.holds Try.pinned (OpenSpec.ofChange fnExactCountVisitsSpec)

/-- ITS FALSE NEIGHBOUR: 'it returns false'. Refute it at one input. -/
def fnExactCountVisitsWrong : ChangeSpec := { name := "fnExactCountVisits", fn := fun _ => fun
  | [d] => { results := [.lit (.bool false)], args := [d] }
  | _ => none }
def FnExactCountVisitsWrongFalsely : Prop := fnExactCountVisitsRow.holds Try.pinned (OpenSpec.ofChange fnExactCountVisitsWrong)

/-- 'laws.FnExactFewestActs': WHATEVER THE INPUT: true; the input reads as it did. -/
def fnExactFewestActsSpec : ChangeSpec := { name := "fnExactFewestActs", fn := fun _ => fun
  | [d] => { results := [.lit (.bool true)], args := [d] }
  | _ => none }
def fnExactFewestActsRow : OpenClaim := { program := "ytajjkmapibppaaa", sum := "87856b7ff3eeb6af4bdbd72a5c17e764f821689eb58ba2d5469909dea6a8ea77", func := "loop.example/g01158/laws.FnExactFewestActs", spec := "fnExactFewestActs", unfollowed := true, recurses := true, apart := false }
def FnExactFewestActsSaid : Prop := fnExactFewestActsRow.holds Try.pinned (OpenSpec.ofChange fnExactFewestActsSpec)

/-- ITS FALSE NEIGHBOUR: 'it returns false'. Refute it at one input. -/
def fnExactFewestActsWrong : ChangeSpec := { name := "fnExactFewestActs", fn := fun _ => fun
  | [d] => { results := [.lit (.bool false)], args := [d] }
  | _ => none }
def FnExactFewestActsWrongFalsely : Prop := fnExactFewestActsRow.holds Try.pinned (OpenSpec.ofChange fnExactFewestActsWrong)

/-- 'laws.FnExactFewestPulls': WHATEVER THE INPUT: true; the input reads as it did. -/
def fnExactFewestPullsSpec : ChangeSpec := { name := "fnExactFewestPulls", fn := fun _ => fun
  | [d] => { results := [.lit (.bool true)], args := [d] }
  | _ => none }
def fnExactFewestPullsRow : OpenClaim := { program := "ytajjkmapibppaaa", sum := "87856b7ff3eeb6af4bdbd72a5c17e764f821689eb58ba2d5469909dea6a8ea77", func := "loop.example/g01158/laws.FnExactFewestPulls", spec := "fnExactFewestPulls", unfollowed := true, recurses := true, apart := false }
def FnExactFewestPullsSaid : Prop := fnExactFewestPullsRow.holds Try.pinned (OpenSpec.ofChange fnExactFewestPullsSpec)

/-- ITS FALSE NEIGHBOUR: 'it returns false'. Refute it at one input. -/
def fnExactFewestPullsWrong : ChangeSpec := { name := "fnExactFewestPulls", fn := fun _ => fun
  | [d] => { results := [.lit (.bool false)], args := [d] }
  | _ => none }
def FnExactFewestPullsWrongFalsely : Prop := fnExactFewestPullsRow.holds Try.pinned (OpenSpec.ofChange fnExactFewestPullsWrong)

/-- 'laws.FnExactReachTable': WHATEVER THE INPUT: true; the input reads as it did. -/
def fnExactReachTableSpec : ChangeSpec := { name := "fnExactReachTable", fn := fun _ => fun
  | [d] => { results := [.lit (.bool true)], args := [d] }
  | _ => none }
def fnExactReachTableRow : OpenClaim := { program := "ytajjkmapibppaaa", sum := "87856b7ff3eeb6af4bdbd72a5c17e764f821689eb58ba2d5469909dea6a8ea77", func := "loop.example/g01158/laws.FnExactReachTable", spec := "fnExactReachTable", unfollowed := true, recurses := true, apart := false }
def FnExactReachTableSaid : Prop := fnExactReachTableRow.holds Try.pinned (OpenSpec.ofChange fnExactReachTableSpec)

/-- ITS FALSE NEIGHBOUR: 'it returns false'. Refute it at one input. -/
def fnExactReachTableWrong : ChangeSpec := { name := "fnExactReachTable", fn := fun _ => fun
  | [d] => { results := [.lit (.bool false)], args := [d] }
  | _ => none }
def FnExactReachTableWrongFalsely : Prop := fnExactReachTableRow.holds Try.pinned (OpenSpec.ofChange fnExactReachTableWrong)

/-- 'laws.FnExactFirstPlan': WHATEVER THE INPUT: true; the input reads as it did. -/
def fnExactFirstPlanSpec : ChangeSpec := { name := "fnExactFirstPlan", fn := fun _ => fun
  | [d] => { results := [.lit (.bool true)], args := [d] }
  | _ => none }
def fnExactFirstPlanRow : OpenClaim := { program := "ytajjkmapibppaaa", sum := "87856b7ff3eeb6af4bdbd72a5c17e764f821689eb58ba2d5469909dea6a8ea77", func := "loop.example/g01158/laws.FnExactFirstPlan", spec := "fnExactFirstPlan", unfollowed := true, recurses := true, apart := false }
def FnExactFirstPlanSaid : Prop := fnExactFirstPlanRow.holds Try.pinned (OpenSpec.ofChange fnExactFirstPlanSpec)

/-- ITS FALSE NEIGHBOUR: 'it returns false'. Refute it at one input. -/
def fnExactFirstPlanWrong : ChangeSpec := { name := "fnExactFirstPlan", fn := fun _ => fun
  | [d] => { results := [.lit (.bool false)], args := [d] }
  | _ => none }
def FnExactFirstPlanWrongFalsely : Prop := fnExactFirstPlanRow.holds Try.pinned (OpenSpec.ofChange fnExactFirstPlanWrong)

/-- 'laws.FnExactTurnLevers': WHATEVER THE INPUT: true; the input reads as it did. -/
def fnExactTurnLeversSpec : ChangeSpec := { name := "fnExactTurnLevers", fn := fun _ => fun
  | [d1, d2] => { results := [.lit (.bool true)], args := [d1, d2] }
  | _ => none }
def fnExactTurnLeversRow : OpenClaim := { program := "ytajjkmapibppaaa", sum := "87856b7ff3eeb6af4bdbd72a5c17e764f821689eb58ba2d5469909dea6a8ea77", func := "loop.example/g01158/laws.FnExactTurnLevers", spec := "fnExactTurnLevers", unfollowed := true, recurses := true, apart := false }
def FnExactTurnLeversSaid : Prop := fnExactTurnLeversRow.holds Try.pinned (OpenSpec.ofChange fnExactTurnLeversSpec)

/-- ITS FALSE NEIGHBOUR: 'it returns false'. Refute it at one input. -/
def fnExactTurnLeversWrong : ChangeSpec := { name := "fnExactTurnLevers", fn := fun _ => fun
  | [d1, d2] => { results := [.lit (.bool false)], args := [d1, d2] }
  | _ => none }
def FnExactTurnLeversWrongFalsely : Prop := fnExactTurnLeversRow.holds Try.pinned (OpenSpec.ofChange fnExactTurnLeversWrong)

/-- 'laws.FnLevers': WHATEVER THE INPUT: true; the input reads as it did. -/
def fnLeversSpec : ChangeSpec := { name := "fnLevers", fn := fun _ => fun
  | [d] => { results := [.lit (.bool true)], args := [d] }
  | _ => none }
def fnLeversRow : OpenClaim := { program := "ytajjkmapibppaaa", sum := "87856b7ff3eeb6af4bdbd72a5c17e764f821689eb58ba2d5469909dea6a8ea77", func := "loop.example/g01158/laws.FnLevers", spec := "fnLevers", unfollowed := true, recurses := true, apart := false }
def FnLeversSaid : Prop := fnLeversRow.holds Try.pinned (OpenSpec.ofChange fnLeversSpec)

/-- ITS FALSE NEIGHBOUR: 'it returns false'. Refute it at one input. -/
def fnLeversWrong : ChangeSpec := { name := "fnLevers", fn := fun _ => fun
  | [d] => { results := [.lit (.bool false)], args := [d] }
  | _ => none }
def FnLeversWrongFalsely : Prop := fnLeversRow.holds Try.pinned (OpenSpec.ofChange fnLeversWrong)

/-- 'laws.FnPlans': WHATEVER THE INPUT: true; the input reads as it did. -/
def fnPlansSpec : ChangeSpec := { name := "fnPlans", fn := fun _ => fun
  | [d] => { results := [.lit (.bool true)], args := [d] }
  | _ => none }
def fnPlansRow : OpenClaim := { program := "ytajjkmapibppaaa", sum := "87856b7ff3eeb6af4bdbd72a5c17e764f821689eb58ba2d5469909dea6a8ea77", func := "loop.example/g01158/laws.FnPlans", spec := "fnPlans", unfollowed := true, recurses := true, apart := false }
def FnPlansSaid : Prop := fnPlansRow.holds Try.pinned (OpenSpec.ofChange fnPlansSpec)

/-- ITS FALSE NEIGHBOUR: 'it returns false'. Refute it at one input. -/
def fnPlansWrong : ChangeSpec := { name := "fnPlans", fn := fun _ => fun
  | [d] => { results := [.lit (.bool false)], args := [d] }
  | _ => none }
def FnPlansWrongFalsely : Prop := fnPlansRow.holds Try.pinned (OpenSpec.ofChange fnPlansWrong)

/- THE SECOND FORM. 'bulk': how many values and letters a reading holds, each counted each time it is reached (what is shared counts as often as it is met; a slice's spare places count too). A statement '..UptoSaid' is the law's where the arguments, and the package variables that the reading takes, are together of bulk at most 1048576: NARROWER than '..Said'. Prove '..Said' where nothing that the law and all that it calls make is longer than what came in: it says more and counts as full. Else prove '..UptoSaid'. A law counts once. -/
mutual
def uptoBulk {H : Type} : DataW H → Nat
  | .lit (.string bytes) => bytes.length + 1
  | .lit _ => 1
  | .nil => 1
  | .ptr d => uptoBulk d + 1
  | .slice elems spare => uptoBulkAll elems + uptoBulkAll spare + 1
  | .agg parts => uptoBulkAll parts + 1
  | .iface _ d => uptoBulk d + 1
  | .map entries => uptoBulkEntries entries + 1
  | .held _ => 1
def uptoBulkAll {H : Type} : List (DataW H) → Nat
  | [] => 0
  | d :: r => uptoBulk d + uptoBulkAll r
def uptoBulkEntries {H : Type} : List (Lit × DataW H) → Nat
  | [] => 0
  | x :: r => uptoBulkEntry x + uptoBulkEntries r
def uptoBulkEntry {H : Type} : Lit × DataW H → Nat
  | (.string bytes, d) => bytes.length + uptoBulk d + 1
  | (_, d) => uptoBulk d + 1
 end
def uptoSmall : (H : Type) → List (DataW H) → Bool := fun _ ds => decide (uptoBulkAll ds ≤ 1048576)
def OpenSpec.upto (s : _root_.Go.ChangeSpec) : _root_.Go.OpenSpec := { _root_.Go.OpenSpec.ofChange s with cond := some uptoSmall }

/-- 'laws.FnExactActsAt', WHERE WHAT IT READS IS OF BULK AT MOST 1048576: true; the input reads as it did. -/
def fnExactActsAtUptoRow : OpenClaim := { program := "ytajjkmapibppaaa", sum := "87856b7ff3eeb6af4bdbd72a5c17e764f821689eb58ba2d5469909dea6a8ea77", func := "loop.example/g01158/laws.FnExactActsAt", spec := "fnExactActsAt", unfollowed := true, recurses := true, apart := false, narrowed := true }
def FnExactActsAtUptoSaid : Prop := fnExactActsAtUptoRow.holds Try.pinned (OpenSpec.upto fnExactActsAtSpec)

/-- 'laws.FnExactDoAct', WHERE WHAT IT READS IS OF BULK AT MOST 1048576: true; the input reads as it did. -/
def fnExactDoActUptoRow : OpenClaim := { program := "ytajjkmapibppaaa", sum := "87856b7ff3eeb6af4bdbd72a5c17e764f821689eb58ba2d5469909dea6a8ea77", func := "loop.example/g01158/laws.FnExactDoAct", spec := "fnExactDoAct", unfollowed := true, recurses := true, apart := false, narrowed := true }
def FnExactDoActUptoSaid : Prop := fnExactDoActUptoRow.holds Try.pinned (OpenSpec.upto fnExactDoActSpec)

/-- 'laws.FnExactRunPlan', WHERE WHAT IT READS IS OF BULK AT MOST 1048576: true; the input reads as it did. -/
def fnExactRunPlanUptoRow : OpenClaim := { program := "ytajjkmapibppaaa", sum := "87856b7ff3eeb6af4bdbd72a5c17e764f821689eb58ba2d5469909dea6a8ea77", func := "loop.example/g01158/laws.FnExactRunPlan", spec := "fnExactRunPlan", unfollowed := true, recurses := true, apart := false, narrowed := true }
def FnExactRunPlanUptoSaid : Prop := fnExactRunPlanUptoRow.holds Try.pinned (OpenSpec.upto fnExactRunPlanSpec)

/-- 'laws.FnExactIsPlan', WHERE WHAT IT READS IS OF BULK AT MOST 1048576: true; the input reads as it did. -/
def fnExactIsPlanUptoRow : OpenClaim := { program := "ytajjkmapibppaaa", sum := "87856b7ff3eeb6af4bdbd72a5c17e764f821689eb58ba2d5469909dea6a8ea77", func := "loop.example/g01158/laws.FnExactIsPlan", spec := "fnExactIsPlan", unfollowed := true, recurses := true, apart := false, narrowed := true }
def FnExactIsPlanUptoSaid : Prop := fnExactIsPlanUptoRow.holds Try.pinned (OpenSpec.upto fnExactIsPlanSpec)

/-- 'laws.FnExactAreApart', WHERE WHAT IT READS IS OF BULK AT MOST 1048576: true; the input reads as it did. -/
def fnExactAreApartUptoRow : OpenClaim := { program := "ytajjkmapibppaaa", sum := "87856b7ff3eeb6af4bdbd72a5c17e764f821689eb58ba2d5469909dea6a8ea77", func := "loop.example/g01158/laws.FnExactAreApart", spec := "fnExactAreApart", unfollowed := true, recurses := true, apart := false, narrowed := true }
def FnExactAreApartUptoSaid : Prop := fnExactAreApartUptoRow.holds Try.pinned (OpenSpec.upto fnExactAreApartSpec)

/-- 'laws.FnExactCountVisits', WHERE WHAT IT READS IS OF BULK AT MOST 1048576: true; the input reads as it did. -/
def fnExactCountVisitsUptoRow : OpenClaim := { program := "ytajjkmapibppaaa", sum := "87856b7ff3eeb6af4bdbd72a5c17e764f821689eb58ba2d5469909dea6a8ea77", func := "loop.example/g01158/laws.FnExactCountVisits", spec := "fnExactCountVisits", unfollowed := true, recurses := true, apart := false, narrowed := true }
def FnExactCountVisitsUptoSaid : Prop := fnExactCountVisitsUptoRow.holds Try.pinned (OpenSpec.upto fnExactCountVisitsSpec)

/-- 'laws.FnExactFewestActs', WHERE WHAT IT READS IS OF BULK AT MOST 1048576: true; the input reads as it did. -/
def fnExactFewestActsUptoRow : OpenClaim := { program := "ytajjkmapibppaaa", sum := "87856b7ff3eeb6af4bdbd72a5c17e764f821689eb58ba2d5469909dea6a8ea77", func := "loop.example/g01158/laws.FnExactFewestActs", spec := "fnExactFewestActs", unfollowed := true, recurses := true, apart := false, narrowed := true }
def FnExactFewestActsUptoSaid : Prop := fnExactFewestActsUptoRow.holds Try.pinned (OpenSpec.upto fnExactFewestActsSpec)

/-- 'laws.FnExactFewestPulls', WHERE WHAT IT READS IS OF BULK AT MOST 1048576: true; the input reads as it did. -/
def fnExactFewestPullsUptoRow : OpenClaim := { program := "ytajjkmapibppaaa", sum := "87856b7ff3eeb6af4bdbd72a5c17e764f821689eb58ba2d5469909dea6a8ea77", func := "loop.example/g01158/laws.FnExactFewestPulls", spec := "fnExactFewestPulls", unfollowed := true, recurses := true, apart := false, narrowed := true }
def FnExactFewestPullsUptoSaid : Prop := fnExactFewestPullsUptoRow.holds Try.pinned (OpenSpec.upto fnExactFewestPullsSpec)

/-- 'laws.FnExactReachTable', WHERE WHAT IT READS IS OF BULK AT MOST 1048576: true; the input reads as it did. -/
def fnExactReachTableUptoRow : OpenClaim := { program := "ytajjkmapibppaaa", sum := "87856b7ff3eeb6af4bdbd72a5c17e764f821689eb58ba2d5469909dea6a8ea77", func := "loop.example/g01158/laws.FnExactReachTable", spec := "fnExactReachTable", unfollowed := true, recurses := true, apart := false, narrowed := true }
def FnExactReachTableUptoSaid : Prop := fnExactReachTableUptoRow.holds Try.pinned (OpenSpec.upto fnExactReachTableSpec)

/-- 'laws.FnExactFirstPlan', WHERE WHAT IT READS IS OF BULK AT MOST 1048576: true; the input reads as it did. -/
def fnExactFirstPlanUptoRow : OpenClaim := { program := "ytajjkmapibppaaa", sum := "87856b7ff3eeb6af4bdbd72a5c17e764f821689eb58ba2d5469909dea6a8ea77", func := "loop.example/g01158/laws.FnExactFirstPlan", spec := "fnExactFirstPlan", unfollowed := true, recurses := true, apart := false, narrowed := true }
def FnExactFirstPlanUptoSaid : Prop := fnExactFirstPlanUptoRow.holds Try.pinned (OpenSpec.upto fnExactFirstPlanSpec)

/-- 'laws.FnExactTurnLevers', WHERE WHAT IT READS IS OF BULK AT MOST 1048576: true; the input reads as it did. -/
def fnExactTurnLeversUptoRow : OpenClaim := { program := "ytajjkmapibppaaa", sum := "87856b7ff3eeb6af4bdbd72a5c17e764f821689eb58ba2d5469909dea6a8ea77", func := "loop.example/g01158/laws.FnExactTurnLevers", spec := "fnExactTurnLevers", unfollowed := true, recurses := true, apart := false, narrowed := true }
def FnExactTurnLeversUptoSaid : Prop := fnExactTurnLeversUptoRow.holds Try.pinned (OpenSpec.upto fnExactTurnLeversSpec)

/-- 'laws.FnLevers', WHERE WHAT IT READS IS OF BULK AT MOST 1048576: true; the input reads as it did. -/
def fnLeversUptoRow : OpenClaim := { program := "ytajjkmapibppaaa", sum := "87856b7ff3eeb6af4bdbd72a5c17e764f821689eb58ba2d5469909dea6a8ea77", func := "loop.example/g01158/laws.FnLevers", spec := "fnLevers", unfollowed := true, recurses := true, apart := false, narrowed := true }
def FnLeversUptoSaid : Prop := fnLeversUptoRow.holds Try.pinned (OpenSpec.upto fnLeversSpec)

/-- 'laws.FnPlans', WHERE WHAT IT READS IS OF BULK AT MOST 1048576: true; the input reads as it did. -/
def fnPlansUptoRow : OpenClaim := { program := "ytajjkmapibppaaa", sum := "87856b7ff3eeb6af4bdbd72a5c17e764f821689eb58ba2d5469909dea6a8ea77", func := "loop.example/g01158/laws.FnPlans", spec := "fnPlans", unfollowed := true, recurses := true, apart := false, narrowed := true }
def FnPlansUptoSaid : Prop := fnPlansUptoRow.holds Try.pinned (OpenSpec.upto fnPlansSpec)

end Rows
end Go.Proofs.Ytajjkmapibppaaa
