/-
  No cell of these rows narrows 'for every input' (looked for: loops, veiled, ifaces, maps, wideKeys, modest, calm, conditions, laid).
  DERIVED. THE GIVEN ROWS OF THIS SEAT. 9 by the template 'for every input the law returns true; each argument reads behind the call as it read before'; 0 by the template 'total and deterministic' (their statements: YtkhackdbnmcffaaTotals.lean).
  GIVEN WITH THE SEED: the statements are not yours to turn. If you find one false, say at which input.
  Laid BY PROGRAM, IN A SANDBOX (cutbox-rows.mjs): the forced cells as the released guide's own fill.sh prints them over the translation 99c0ae9a6960babd… (all of the seat's roots in one cut). By AI agents, Wed Nov 11 2026. No macro, syntax, notation, axiom, sorry.
-/
import Derived.Test.YtkhackdbnmcffaaChecked
import GoSem.Claim
import GoSem.ClaimJoined
import GoSem.ClaimMapViews
import Derived.JoinedTies
import Derived.KernelRfl
namespace Go.Proofs.Ytkhackdbnmcffaa
/- THE CELL 'sum', in the pinned program and in every row, IS THE sha256 OF THE DUMP (.gsa) THAT YtkhackdbnmcffaaProg.lean LOADS. Nothing in Lean hashes anything: it is a label: what it is worth is what the hold of that sum in a sandbox is worth. -/
noncomputable def Try.pinned : Pinned := { name := "ytkhackdbnmcffaa", sum := "99c0ae9a6960babdb1bf05f245e12f20adc6f8721f3fa9be31f292086f1c5c11", checked := Try.checked }
namespace Rows
def none {H : Type} : Left H := { results := [], args := [] }

/-- 'laws.FnExactAreApart': WHATEVER THE INPUT: true; the input reads as it did. -/
def fnExactAreApartSpec : ChangeSpec := { name := "fnExactAreApart", fn := fun _ => fun
  | [d1, d2, d3, d4, d5] => { results := [.lit (.bool true)], args := [d1, d2, d3, d4, d5] }
  | _ => none }
def fnExactAreApartRow : OpenClaim := { program := "ytkhackdbnmcffaa", sum := "99c0ae9a6960babdb1bf05f245e12f20adc6f8721f3fa9be31f292086f1c5c11", func := "loop.example/g01158/laws.FnExactAreApart", spec := "fnExactAreApart", unfollowed := true, recurses := true, apart := false }
def FnExactAreApartSaid : Prop := fnExactAreApartRow.holds Try.pinned (OpenSpec.ofChange fnExactAreApartSpec)

/-- ITS FALSE NEIGHBOUR: 'it returns false'. Refute it at one input. -/
def fnExactAreApartWrong : ChangeSpec := { name := "fnExactAreApart", fn := fun _ => fun
  | [d1, d2, d3, d4, d5] => { results := [.lit (.bool false)], args := [d1, d2, d3, d4, d5] }
  | _ => none }
def FnExactAreApartWrongFalsely : Prop := fnExactAreApartRow.holds Try.pinned (OpenSpec.ofChange fnExactAreApartWrong)

/-- 'laws.FnExactCountVisits': WHATEVER THE INPUT: true; the input reads as it did. -/
def fnExactCountVisitsSpec : ChangeSpec := { name := "fnExactCountVisits", fn := fun _ => fun
  | [d] => { results := [.lit (.bool true)], args := [d] }
  | _ => none }
def fnExactCountVisitsRow : OpenClaim := { program := "ytkhackdbnmcffaa", sum := "99c0ae9a6960babdb1bf05f245e12f20adc6f8721f3fa9be31f292086f1c5c11", func := "loop.example/g01158/laws.FnExactCountVisits", spec := "fnExactCountVisits", unfollowed := true, recurses := true, apart := false }
def FnExactCountVisitsSaid : Prop := fnExactCountVisitsRow.holds Try.pinned (OpenSpec.ofChange fnExactCountVisitsSpec)

/-- ITS FALSE NEIGHBOUR: 'it returns false'. Refute it at one input. -/
def fnExactCountVisitsWrong : ChangeSpec := { name := "fnExactCountVisits", fn := fun _ => fun
  | [d] => { results := [.lit (.bool false)], args := [d] }
  | _ => none }
def FnExactCountVisitsWrongFalsely : Prop := fnExactCountVisitsRow.holds Try.pinned (OpenSpec.ofChange fnExactCountVisitsWrong)

/-- 'laws.FnExactFewestActs': WHATEVER THE INPUT: true; the input reads as it did. -/
def fnExactFewestActsSpec : ChangeSpec := { name := "fnExactFewestActs", fn := fun _ => fun
  | [d] => { results := [.lit (.bool true)], args := [d] }
  | _ => none }
def fnExactFewestActsRow : OpenClaim := { program := "ytkhackdbnmcffaa", sum := "99c0ae9a6960babdb1bf05f245e12f20adc6f8721f3fa9be31f292086f1c5c11", func := "loop.example/g01158/laws.FnExactFewestActs", spec := "fnExactFewestActs", unfollowed := true, recurses := true, apart := false }
def FnExactFewestActsSaid : Prop := fnExactFewestActsRow.holds Try.pinned (OpenSpec.ofChange fnExactFewestActsSpec)

/-- ITS FALSE NEIGHBOUR: 'it returns false'. Refute it at one input. -/
def fnExactFewestActsWrong : ChangeSpec := { name := "fnExactFewestActs", fn := fun _ => fun
  | [d] => { results := [.lit (.bool false)], args := [d] }
  | _ => none }
def FnExactFewestActsWrongFalsely : Prop := fnExactFewestActsRow.holds Try.pinned (OpenSpec.ofChange fnExactFewestActsWrong)

/-- 'laws.FnExactFewestPulls': WHATEVER THE INPUT: true; the input reads as it did. -/
def fnExactFewestPullsSpec : ChangeSpec := { name := "fnExactFewestPulls", fn := fun _ => fun
  | [d] => { results := [.lit (.bool true)], args := [d] }
  | _ => none }
def fnExactFewestPullsRow : OpenClaim := { program := "ytkhackdbnmcffaa", sum := "99c0ae9a6960babdb1bf05f245e12f20adc6f8721f3fa9be31f292086f1c5c11", func := "loop.example/g01158/laws.FnExactFewestPulls", spec := "fnExactFewestPulls", unfollowed := true, recurses := true, apart := false }
def FnExactFewestPullsSaid : Prop := fnExactFewestPullsRow.holds Try.pinned (OpenSpec.ofChange fnExactFewestPullsSpec)

/-- ITS FALSE NEIGHBOUR: 'it returns false'. Refute it at one input. -/
def fnExactFewestPullsWrong : ChangeSpec := { name := "fnExactFewestPulls", fn := fun _ => fun
  | [d] => { results := [.lit (.bool false)], args := [d] }
  | _ => none }
def FnExactFewestPullsWrongFalsely : Prop := fnExactFewestPullsRow.holds Try.pinned (OpenSpec.ofChange fnExactFewestPullsWrong)

/-- 'laws.FnExactReachTable': WHATEVER THE INPUT: true; the input reads as it did. -/
def fnExactReachTableSpec : ChangeSpec := { name := "fnExactReachTable", fn := fun _ => fun
  | [d] => { results := [.lit (.bool true)], args := [d] }
  | _ => none }
def fnExactReachTableRow : OpenClaim := { program := "ytkhackdbnmcffaa", sum := "99c0ae9a6960babdb1bf05f245e12f20adc6f8721f3fa9be31f292086f1c5c11", func := "loop.example/g01158/laws.FnExactReachTable", spec := "fnExactReachTable", unfollowed := true, recurses := true, apart := false }
def FnExactReachTableSaid : Prop := fnExactReachTableRow.holds Try.pinned (OpenSpec.ofChange fnExactReachTableSpec)

/-- ITS FALSE NEIGHBOUR: 'it returns false'. Refute it at one input. -/
def fnExactReachTableWrong : ChangeSpec := { name := "fnExactReachTable", fn := fun _ => fun
  | [d] => { results := [.lit (.bool false)], args := [d] }
  | _ => none }
def FnExactReachTableWrongFalsely : Prop := fnExactReachTableRow.holds Try.pinned (OpenSpec.ofChange fnExactReachTableWrong)

/-- 'laws.FnExactFirstPlan': WHATEVER THE INPUT: true; the input reads as it did. -/
def fnExactFirstPlanSpec : ChangeSpec := { name := "fnExactFirstPlan", fn := fun _ => fun
  | [d] => { results := [.lit (.bool true)], args := [d] }
  | _ => none }
def fnExactFirstPlanRow : OpenClaim := { program := "ytkhackdbnmcffaa", sum := "99c0ae9a6960babdb1bf05f245e12f20adc6f8721f3fa9be31f292086f1c5c11", func := "loop.example/g01158/laws.FnExactFirstPlan", spec := "fnExactFirstPlan", unfollowed := true, recurses := true, apart := false }
def FnExactFirstPlanSaid : Prop := fnExactFirstPlanRow.holds Try.pinned (OpenSpec.ofChange fnExactFirstPlanSpec)

/-- ITS FALSE NEIGHBOUR: 'it returns false'. Refute it at one input. -/
def fnExactFirstPlanWrong : ChangeSpec := { name := "fnExactFirstPlan", fn := fun _ => fun
  | [d] => { results := [.lit (.bool false)], args := [d] }
  | _ => none }
def FnExactFirstPlanWrongFalsely : Prop := fnExactFirstPlanRow.holds Try.pinned (OpenSpec.ofChange fnExactFirstPlanWrong)

/-- 'laws.FnExactTurnLevers': WHATEVER THE INPUT: true; the input reads as it did. -/
def fnExactTurnLeversSpec : ChangeSpec := { name := "fnExactTurnLevers", fn := fun _ => fun
  | [d1, d2] => { results := [.lit (.bool true)], args := [d1, d2] }
  | _ => none }
def fnExactTurnLeversRow : OpenClaim := { program := "ytkhackdbnmcffaa", sum := "99c0ae9a6960babdb1bf05f245e12f20adc6f8721f3fa9be31f292086f1c5c11", func := "loop.example/g01158/laws.FnExactTurnLevers", spec := "fnExactTurnLevers", unfollowed := true, recurses := true, apart := false }
def FnExactTurnLeversSaid : Prop := fnExactTurnLeversRow.holds Try.pinned (OpenSpec.ofChange fnExactTurnLeversSpec)

/-- ITS FALSE NEIGHBOUR: 'it returns false'. Refute it at one input. -/
def fnExactTurnLeversWrong : ChangeSpec := { name := "fnExactTurnLevers", fn := fun _ => fun
  | [d1, d2] => { results := [.lit (.bool false)], args := [d1, d2] }
  | _ => none }
def FnExactTurnLeversWrongFalsely : Prop := fnExactTurnLeversRow.holds Try.pinned (OpenSpec.ofChange fnExactTurnLeversWrong)

/-- 'laws.FnLevers': WHATEVER THE INPUT: true; the input reads as it did. -/
def fnLeversSpec : ChangeSpec := { name := "fnLevers", fn := fun _ => fun
  | [d] => { results := [.lit (.bool true)], args := [d] }
  | _ => none }
def fnLeversRow : OpenClaim := { program := "ytkhackdbnmcffaa", sum := "99c0ae9a6960babdb1bf05f245e12f20adc6f8721f3fa9be31f292086f1c5c11", func := "loop.example/g01158/laws.FnLevers", spec := "fnLevers", unfollowed := true, recurses := true, apart := false }
def FnLeversSaid : Prop := fnLeversRow.holds Try.pinned (OpenSpec.ofChange fnLeversSpec)

/-- ITS FALSE NEIGHBOUR: 'it returns false'. Refute it at one input. -/
def fnLeversWrong : ChangeSpec := { name := "fnLevers", fn := fun _ => fun
  | [d] => { results := [.lit (.bool false)], args := [d] }
  | _ => none }
def FnLeversWrongFalsely : Prop := fnLeversRow.holds Try.pinned (OpenSpec.ofChange fnLeversWrong)

/-- 'laws.FnPlans': WHATEVER THE INPUT: true; the input reads as it did. -/
def fnPlansSpec : ChangeSpec := { name := "fnPlans", fn := fun _ => fun
  | [d] => { results := [.lit (.bool true)], args := [d] }
  | _ => none }
def fnPlansRow : OpenClaim := { program := "ytkhackdbnmcffaa", sum := "99c0ae9a6960babdb1bf05f245e12f20adc6f8721f3fa9be31f292086f1c5c11", func := "loop.example/g01158/laws.FnPlans", spec := "fnPlans", unfollowed := true, recurses := true, apart := false }
def FnPlansSaid : Prop := fnPlansRow.holds Try.pinned (OpenSpec.ofChange fnPlansSpec)

/-- ITS FALSE NEIGHBOUR: 'it returns false'. Refute it at one input. -/
def fnPlansWrong : ChangeSpec := { name := "fnPlans", fn := fun _ => fun
  | [d] => { results := [.lit (.bool false)], args := [d] }
  | _ => none }
def FnPlansWrongFalsely : Prop := fnPlansRow.holds Try.pinned (OpenSpec.ofChange fnPlansWrong)

/- THE SECOND FORM. 'bulk': how many values and letters a reading holds, each counted each time it is reached (what is shared counts as often as it is met; a slice's spare places count too). A statement '..UptoSaid' is the law's where the arguments, and the package variables that the reading takes, are together of bulk at most 1048576: NARROWER than '..Said'. Prove '..Said' where nothing that the law and all that it calls make is longer than what came in: it says more and counts as full. Else prove '..UptoSaid'. A law counts once. -/
mutual
def uptoBulk {H : Type} : DataW H → Nat
  | .lit (.string bytes) => bytes.length + 1
  | .lit _ => 1
  | .nil => 1
  | .ptr d => uptoBulk d + 1
  | .slice elems spare => uptoBulkAll elems + uptoBulkAll spare + 1
  | .agg parts => uptoBulkAll parts + 1
  | .iface _ d => uptoBulk d + 1
  | .map entries => uptoBulkEntries entries + 1
  | .held _ => 1
def uptoBulkAll {H : Type} : List (DataW H) → Nat
  | [] => 0
  | d :: r => uptoBulk d + uptoBulkAll r
def uptoBulkEntries {H : Type} : List (Lit × DataW H) → Nat
  | [] => 0
  | x :: r => uptoBulkEntry x + uptoBulkEntries r
def uptoBulkEntry {H : Type} : Lit × DataW H → Nat
  | (.string bytes, d) => bytes.length + uptoBulk d + 1
  | (_, d) => uptoBulk d + 1
 end
def uptoSmall : (H : Type) → List (DataW H) → Bool := fun _ ds => decide (uptoBulkAll ds ≤ 1048576)
def OpenSpec.upto (s : _root_.Go.ChangeSpec) : _root_.Go.OpenSpec := { _root_.Go.OpenSpec.ofChange s with cond := some uptoSmall }

/-- 'laws.FnExactAreApart', WHERE WHAT IT READS IS OF BULK AT MOST 1048576: true; the input reads as it did. -/
def fnExactAreApartUptoRow : OpenClaim := { program := "ytkhackdbnmcffaa", sum := "99c0ae9a6960babdb1bf05f245e12f20adc6f8721f3fa9be31f292086f1c5c11", func := "loop.example/g01158/laws.FnExactAreApart", spec := "fnExactAreApart", unfollowed := true, recurses := true, apart := false, narrowed := true }
def FnExactAreApartUptoSaid : Prop := fnExactAreApartUptoRow.holds Try.pinned (OpenSpec.upto fnExactAreApartSpec)

/-- 'laws.FnExactCountVisits', WHERE WHAT IT READS IS OF BULK AT MOST 1048576: true; the input reads as it did. -/
def fnExactCountVisitsUptoRow : OpenClaim := { program := "ytkhackdbnmcffaa", sum := "99c0ae9a6960babdb1bf05f245e12f20adc6f8721f3fa9be31f292086f1c5c11", func := "loop.example/g01158/laws.FnExactCountVisits", spec := "fnExactCountVisits", unfollowed := true, recurses := true, apart := false, narrowed := true }
def FnExactCountVisitsUptoSaid : Prop := fnExactCountVisitsUptoRow.holds Try.pinned (OpenSpec.upto fnExactCountVisitsSpec)

/-- 'laws.FnExactFewestActs', WHERE WHAT IT READS IS OF BULK AT MOST 1048576: true; the input reads as it did. -/
def fnExactFewestActsUptoRow : OpenClaim := { program := "ytkhackdbnmcffaa", sum := "99c0ae9a6960babdb1bf05f245e12f20adc6f8721f3fa9be31f292086f1c5c11", func := "loop.example/g01158/laws.FnExactFewestActs", spec := "fnExactFewestActs", unfollowed := true, recurses := true, apart := false, narrowed := true }
def FnExactFewestActsUptoSaid : Prop := fnExactFewestActsUptoRow.holds Try.pinned (OpenSpec.upto fnExactFewestActsSpec)

/-- 'laws.FnExactFewestPulls', WHERE WHAT IT READS IS OF BULK AT MOST 1048576: true; the input reads as it did. -/
def fnExactFewestPullsUptoRow : OpenClaim := { program := "ytkhackdbnmcffaa", sum := "99c0ae9a6960babdb1bf05f245e12f20adc6f8721f3fa9be31f292086f1c5c11", func := "loop.example/g01158/laws.FnExactFewestPulls", spec := "fnExactFewestPulls", unfollowed := true, recurses := true, apart := false, narrowed := true }
def FnExactFewestPullsUptoSaid : Prop := fnExactFewestPullsUptoRow.holds Try.pinned (OpenSpec.upto fnExactFewestPullsSpec)

/-- 'laws.FnExactReachTable', WHERE WHAT IT READS IS OF BULK AT MOST 1048576: true; the input reads as it did. -/
def fnExactReachTableUptoRow : OpenClaim := { program := "ytkhackdbnmcffaa", sum := "99c0ae9a6960babdb1bf05f245e12f20adc6f8721f3fa9be31f292086f1c5c11", func := "loop.example/g01158/laws.FnExactReachTable", spec := "fnExactReachTable", unfollowed := true, recurses := true, apart := false, narrowed := true }
def FnExactReachTableUptoSaid : Prop := fnExactReachTableUptoRow.holds Try.pinned (OpenSpec.upto fnExactReachTableSpec)

/-- 'laws.FnExactFirstPlan', WHERE WHAT IT READS IS OF BULK AT MOST 1048576: true; the input reads as it did. -/
def fnExactFirstPlanUptoRow : OpenClaim := { program := "ytkhackdbnmcffaa", sum := "99c0ae9a6960babdb1bf05f245e12f20adc6f8721f3fa9be31f292086f1c5c11", func := "loop.example/g01158/laws.FnExactFirstPlan", spec := "fnExactFirstPlan", unfollowed := true, recurses := true, apart := false, narrowed := true }
def FnExactFirstPlanUptoSaid : Prop := fnExactFirstPlanUptoRow.holds Try.pinned (OpenSpec.upto fnExactFirstPlanSpec)

/-- 'laws.FnExactTurnLevers', WHERE WHAT IT READS IS OF BULK AT MOST 1048576: true; the input reads as it did. -/
def fnExactTurnLeversUptoRow : OpenClaim := { program := "ytkhackdbnmcffaa", sum := "99c0ae9a6960babdb1bf05f245e12f20adc6f8721f3fa9be31f292086f1c5c11", func := "loop.example/g01158/laws.FnExactTurnLevers", spec := "fnExactTurnLevers", unfollowed := true, recurses := true, apart := false, narrowed := true }
def FnExactTurnLeversUptoSaid : Prop := fnExactTurnLeversUptoRow.holds Try.pinned (OpenSpec.upto fnExactTurnLeversSpec)

/-- 'laws.FnLevers', WHERE WHAT IT READS IS OF BULK AT MOST 1048576: true; the input reads as it did. -/
def fnLeversUptoRow : OpenClaim := { program := "ytkhackdbnmcffaa", sum := "99c0ae9a6960babdb1bf05f245e12f20adc6f8721f3fa9be31f292086f1c5c11", func := "loop.example/g01158/laws.FnLevers", spec := "fnLevers", unfollowed := true, recurses := true, apart := false, narrowed := true }
def FnLeversUptoSaid : Prop := fnLeversUptoRow.holds Try.pinned (OpenSpec.upto fnLeversSpec)

/-- 'laws.FnPlans', WHERE WHAT IT READS IS OF BULK AT MOST 1048576: true; the input reads as it did. -/
def fnPlansUptoRow : OpenClaim := { program := "ytkhackdbnmcffaa", sum := "99c0ae9a6960babdb1bf05f245e12f20adc6f8721f3fa9be31f292086f1c5c11", func := "loop.example/g01158/laws.FnPlans", spec := "fnPlans", unfollowed := true, recurses := true, apart := false, narrowed := true }
def FnPlansUptoSaid : Prop := fnPlansUptoRow.holds Try.pinned (OpenSpec.upto fnPlansSpec)

end Rows
end Go.Proofs.Ytkhackdbnmcffaa
