/-
  No cell of these rows narrows 'for every input' (looked for: loops, veiled, ifaces, maps, wideKeys, modest, calm, conditions, laid).
  DERIVED. THE GIVEN ROWS OF THIS SEAT. 8 by the template 'for every input the law returns true; each argument reads behind the call as it read before'; 0 by the template 'total and deterministic' (their statements: YtmilpahggceemaaTotals.lean).
  GIVEN WITH THE SEED: the statements are not yours to turn. If you find one false, say at which input.
  Laid BY PROGRAM, IN A SANDBOX (cutbox-rows.mjs): the forced cells as the released guide's own fill.sh prints them over the translation c14bcedbf26e73a0… (all of the seat's roots in one cut). By AI agents, Wed Nov 11 2026. No macro, syntax, notation, axiom, sorry.
-/
import Derived.Test.YtmilpahggceemaaChecked
import GoSem.Claim
import GoSem.ClaimJoined
import GoSem.ClaimMapViews
import Derived.JoinedTies
import Derived.KernelRfl
namespace Go.Proofs.Ytmilpahggceemaa
/- THE CELL 'sum', in the pinned program and in every row, IS THE sha256 OF THE DUMP (.gsa) THAT YtmilpahggceemaaProg.lean LOADS. Nothing in Lean hashes anything: it is a label: what it is worth is what the hold of that sum in a sandbox is worth. -/
noncomputable def Try.pinned : Pinned := { name := "ytmilpahggceemaa", sum := "c14bcedbf26e73a0878376cf0feec39859dddbd6e2a586ab437ffd05aabc733e", checked := Try.checked }
namespace Rows
def none {H : Type} : Left H := { results := [], args := [] }

/-- 'laws.FnClutters': WHATEVER THE INPUT: true; the input reads as it did. -/
def fnCluttersSpec : ChangeSpec := { name := "fnClutters", fn := fun _ => fun
  | [d] => { results := [.lit (.bool true)], args := [d] }
  | _ => none }
def fnCluttersRow : OpenClaim := { program := "ytmilpahggceemaa", sum := "c14bcedbf26e73a0878376cf0feec39859dddbd6e2a586ab437ffd05aabc733e", func := "loop.example/g01158/laws.FnClutters", spec := "fnClutters", unfollowed := true, recurses := true, apart := false }
def FnCluttersSaid : Prop := fnCluttersRow.holds Try.pinned (OpenSpec.ofChange fnCluttersSpec)

/-- ITS FALSE NEIGHBOUR: 'it returns false'. Refute it at one input. -/
def fnCluttersWrong : ChangeSpec := { name := "fnClutters", fn := fun _ => fun
  | [d] => { results := [.lit (.bool false)], args := [d] }
  | _ => none }
def FnCluttersWrongFalsely : Prop := fnCluttersRow.holds Try.pinned (OpenSpec.ofChange fnCluttersWrong)

/-- 'laws.FnPlans': WHATEVER THE INPUT: true; the input reads as it did. -/
def fnPlansSpec : ChangeSpec := { name := "fnPlans", fn := fun _ => fun
  | [d] => { results := [.lit (.bool true)], args := [d] }
  | _ => none }
def fnPlansRow : OpenClaim := { program := "ytmilpahggceemaa", sum := "c14bcedbf26e73a0878376cf0feec39859dddbd6e2a586ab437ffd05aabc733e", func := "loop.example/g01158/laws.FnPlans", spec := "fnPlans", unfollowed := true, recurses := true, apart := false }
def FnPlansSaid : Prop := fnPlansRow.holds Try.pinned (OpenSpec.ofChange fnPlansSpec)

/-- ITS FALSE NEIGHBOUR: 'it returns false'. Refute it at one input. -/
def fnPlansWrong : ChangeSpec := { name := "fnPlans", fn := fun _ => fun
  | [d] => { results := [.lit (.bool false)], args := [d] }
  | _ => none }
def FnPlansWrongFalsely : Prop := fnPlansRow.holds Try.pinned (OpenSpec.ofChange fnPlansWrong)

/-- 'laws.FnExactFewestPulls': WHATEVER THE INPUT: true; the input reads as it did. -/
def fnExactFewestPullsSpec : ChangeSpec := { name := "fnExactFewestPulls", fn := fun _ => fun
  | [d] => { results := [.lit (.bool true)], args := [d] }
  | _ => none }
def fnExactFewestPullsRow : OpenClaim := { program := "ytmilpahggceemaa", sum := "c14bcedbf26e73a0878376cf0feec39859dddbd6e2a586ab437ffd05aabc733e", func := "loop.example/g01158/laws.FnExactFewestPulls", spec := "fnExactFewestPulls", unfollowed := true, recurses := true, apart := false }
def FnExactFewestPullsSaid : Prop := fnExactFewestPullsRow.holds Try.pinned (OpenSpec.ofChange fnExactFewestPullsSpec)

/-- ITS FALSE NEIGHBOUR: 'it returns false'. Refute it at one input. -/
def fnExactFewestPullsWrong : ChangeSpec := { name := "fnExactFewestPulls", fn := fun _ => fun
  | [d] => { results := [.lit (.bool false)], args := [d] }
  | _ => none }
def FnExactFewestPullsWrongFalsely : Prop := fnExactFewestPullsRow.holds Try.pinned (OpenSpec.ofChange fnExactFewestPullsWrong)

/-- 'laws.FnLevers': WHATEVER THE INPUT: true; the input reads as it did. -/
def fnLeversSpec : ChangeSpec := { name := "fnLevers", fn := fun _ => fun
  | [d] => { results := [.lit (.bool true)], args := [d] }
  | _ => none }
def fnLeversRow : OpenClaim := { program := "ytmilpahggceemaa", sum := "c14bcedbf26e73a0878376cf0feec39859dddbd6e2a586ab437ffd05aabc733e", func := "loop.example/g01158/laws.FnLevers", spec := "fnLevers", unfollowed := true, recurses := true, apart := false }
def FnLeversSaid : Prop := fnLeversRow.holds Try.pinned (OpenSpec.ofChange fnLeversSpec)

/-- ITS FALSE NEIGHBOUR: 'it returns false'. Refute it at one input. -/
def fnLeversWrong : ChangeSpec := { name := "fnLevers", fn := fun _ => fun
  | [d] => { results := [.lit (.bool false)], args := [d] }
  | _ => none }
def FnLeversWrongFalsely : Prop := fnLeversRow.holds Try.pinned (OpenSpec.ofChange fnLeversWrong)

/-- 'laws.FnSpent': WHATEVER THE INPUT: true; the input reads as it did. -/
def fnSpentSpec : ChangeSpec := { name := "fnSpent", fn := fun _ => fun
  | [d] => { results := [.lit (.bool true)], args := [d] }
  | _ => none }
def fnSpentRow : OpenClaim := { program := "ytmilpahggceemaa", sum := "c14bcedbf26e73a0878376cf0feec39859dddbd6e2a586ab437ffd05aabc733e", func := "loop.example/g01158/laws.FnSpent", spec := "fnSpent", unfollowed := true, recurses := true, apart := false }
def FnSpentSaid : Prop := fnSpentRow.holds Try.pinned (OpenSpec.ofChange fnSpentSpec)

/-- ITS FALSE NEIGHBOUR: 'it returns false'. Refute it at one input. -/
def fnSpentWrong : ChangeSpec := { name := "fnSpent", fn := fun _ => fun
  | [d] => { results := [.lit (.bool false)], args := [d] }
  | _ => none }
def FnSpentWrongFalsely : Prop := fnSpentRow.holds Try.pinned (OpenSpec.ofChange fnSpentWrong)

/-- 'laws.FnSafe': WHATEVER THE INPUT: true; the input reads as it did. -/
def fnSafeSpec : ChangeSpec := { name := "fnSafe", fn := fun _ => fun
  | [d] => { results := [.lit (.bool true)], args := [d] }
  | _ => none }
def fnSafeRow : OpenClaim := { program := "ytmilpahggceemaa", sum := "c14bcedbf26e73a0878376cf0feec39859dddbd6e2a586ab437ffd05aabc733e", func := "loop.example/g01158/laws.FnSafe", spec := "fnSafe", unfollowed := true, recurses := true, apart := false }
def FnSafeSaid : Prop := fnSafeRow.holds Try.pinned (OpenSpec.ofChange fnSafeSpec)

/-- ITS FALSE NEIGHBOUR: 'it returns false'. Refute it at one input. -/
def fnSafeWrong : ChangeSpec := { name := "fnSafe", fn := fun _ => fun
  | [d] => { results := [.lit (.bool false)], args := [d] }
  | _ => none }
def FnSafeWrongFalsely : Prop := fnSafeRow.holds Try.pinned (OpenSpec.ofChange fnSafeWrong)

/-- 'laws.FnHints': WHATEVER THE INPUT: true; the input reads as it did. -/
def fnHintsSpec : ChangeSpec := { name := "fnHints", fn := fun _ => fun
  | [d] => { results := [.lit (.bool true)], args := [d] }
  | _ => none }
def fnHintsRow : OpenClaim := { program := "ytmilpahggceemaa", sum := "c14bcedbf26e73a0878376cf0feec39859dddbd6e2a586ab437ffd05aabc733e", func := "loop.example/g01158/laws.FnHints", spec := "fnHints", unfollowed := true, recurses := true, apart := false }
def FnHintsSaid : Prop := fnHintsRow.holds Try.pinned (OpenSpec.ofChange fnHintsSpec)

/-- ITS FALSE NEIGHBOUR: 'it returns false'. Refute it at one input. -/
def fnHintsWrong : ChangeSpec := { name := "fnHints", fn := fun _ => fun
  | [d] => { results := [.lit (.bool false)], args := [d] }
  | _ => none }
def FnHintsWrongFalsely : Prop := fnHintsRow.holds Try.pinned (OpenSpec.ofChange fnHintsWrong)

/-- 'laws.FnEntries': WHATEVER THE INPUT: true; the input reads as it did. -/
def fnEntriesSpec : ChangeSpec := { name := "fnEntries", fn := fun _ => fun
  | [d] => { results := [.lit (.bool true)], args := [d] }
  | _ => none }
def fnEntriesRow : OpenClaim := { program := "ytmilpahggceemaa", sum := "c14bcedbf26e73a0878376cf0feec39859dddbd6e2a586ab437ffd05aabc733e", func := "loop.example/g01158/laws.FnEntries", spec := "fnEntries", unfollowed := true, recurses := true, apart := false }
def FnEntriesSaid : Prop := fnEntriesRow.holds Try.pinned (OpenSpec.ofChange fnEntriesSpec)

/-- ITS FALSE NEIGHBOUR: 'it returns false'. Refute it at one input. -/
def fnEntriesWrong : ChangeSpec := { name := "fnEntries", fn := fun _ => fun
  | [d] => { results := [.lit (.bool false)], args := [d] }
  | _ => none }
def FnEntriesWrongFalsely : Prop := fnEntriesRow.holds Try.pinned (OpenSpec.ofChange fnEntriesWrong)

/- THE SECOND FORM. 'bulk': how many values and letters a reading holds, each counted each time it is reached (what is shared counts as often as it is met; a slice's spare places count too). A statement '..UptoSaid' is the law's where the arguments, and the package variables that the reading takes, are together of bulk at most 1048576: NARROWER than '..Said'. Prove '..Said' where nothing that the law and all that it calls make is longer than what came in: it says more and counts as full. Else prove '..UptoSaid'. A law counts once. -/
mutual
def uptoBulk {H : Type} : DataW H → Nat
  | .lit (.string bytes) => bytes.length + 1
  | .lit _ => 1
  | .nil => 1
  | .ptr d => uptoBulk d + 1
  | .slice elems spare => uptoBulkAll elems + uptoBulkAll spare + 1
  | .agg parts => uptoBulkAll parts + 1
  | .iface _ d => uptoBulk d + 1
  | .map entries => uptoBulkEntries entries + 1
  | .held _ => 1
def uptoBulkAll {H : Type} : List (DataW H) → Nat
  | [] => 0
  | d :: r => uptoBulk d + uptoBulkAll r
def uptoBulkEntries {H : Type} : List (Lit × DataW H) → Nat
  | [] => 0
  | x :: r => uptoBulkEntry x + uptoBulkEntries r
def uptoBulkEntry {H : Type} : Lit × DataW H → Nat
  | (.string bytes, d) => bytes.length + uptoBulk d + 1
  | (_, d) => uptoBulk d + 1
 end
def uptoSmall : (H : Type) → List (DataW H) → Bool := fun _ ds => decide (uptoBulkAll ds ≤ 1048576)
def OpenSpec.upto (s : _root_.Go.ChangeSpec) : _root_.Go.OpenSpec := { _root_.Go.OpenSpec.ofChange s with cond := some uptoSmall }

/-- 'laws.FnClutters', WHERE WHAT IT READS IS OF BULK AT MOST 1048576: true; the input reads as it did. -/
def fnCluttersUptoRow : OpenClaim := { program := "ytmilpahggceemaa", sum := "c14bcedbf26e73a0878376cf0feec39859dddbd6e2a586ab437ffd05aabc733e", func := "loop.example/g01158/laws.FnClutters", spec := "fnClutters", unfollowed := true, recurses := true, apart := false, narrowed := true }
def FnCluttersUptoSaid : Prop := fnCluttersUptoRow.holds Try.pinned (OpenSpec.upto fnCluttersSpec)

/-- 'laws.FnPlans', WHERE WHAT IT READS IS OF BULK AT MOST 1048576: true; the input reads as it did. -/
def fnPlansUptoRow : OpenClaim := { program := "ytmilpahggceemaa", sum := "c14bcedbf26e73a0878376cf0feec39859dddbd6e2a586ab437ffd05aabc733e", func := "loop.example/g01158/laws.FnPlans", spec := "fnPlans", unfollowed := true, recurses := true, apart := false, narrowed := true }
def FnPlansUptoSaid : Prop := fnPlansUptoRow.holds Try.pinned (OpenSpec.upto fnPlansSpec)

/-- 'laws.FnExactFewestPulls', WHERE WHAT IT READS IS OF BULK AT MOST 1048576: true; the input reads as it did. -/
def fnExactFewestPullsUptoRow : OpenClaim := { program := "ytmilpahggceemaa", sum := "c14bcedbf26e73a0878376cf0feec39859dddbd6e2a586ab437ffd05aabc733e", func := "loop.example/g01158/laws.FnExactFewestPulls", spec := "fnExactFewestPulls", unfollowed := true, recurses := true, apart := false, narrowed := true }
def FnExactFewestPullsUptoSaid : Prop := fnExactFewestPullsUptoRow.holds Try.pinned (OpenSpec.upto fnExactFewestPullsSpec)

/-- 'laws.FnLevers', WHERE WHAT IT READS IS OF BULK AT MOST 1048576: true; the input reads as it did. -/
def fnLeversUptoRow : OpenClaim := { program := "ytmilpahggceemaa", sum := "c14bcedbf26e73a0878376cf0feec39859dddbd6e2a586ab437ffd05aabc733e", func := "loop.example/g01158/laws.FnLevers", spec := "fnLevers", unfollowed := true, recurses := true, apart := false, narrowed := true }
def FnLeversUptoSaid : Prop := fnLeversUptoRow.holds Try.pinned (OpenSpec.upto fnLeversSpec)

/-- 'laws.FnSpent', WHERE WHAT IT READS IS OF BULK AT MOST 1048576: true; the input reads as it did. -/
def fnSpentUptoRow : OpenClaim := { program := "ytmilpahggceemaa", sum := "c14bcedbf26e73a0878376cf0feec39859dddbd6e2a586ab437ffd05aabc733e", func := "loop.example/g01158/laws.FnSpent", spec := "fnSpent", unfollowed := true, recurses := true, apart := false, narrowed := true }
def FnSpentUptoSaid : Prop := fnSpentUptoRow.holds Try.pinned (OpenSpec.upto fnSpentSpec)

/-- 'laws.FnSafe', WHERE WHAT IT READS IS OF BULK AT MOST 1048576: true; the input reads as it did. -/
def fnSafeUptoRow : OpenClaim := { program := "ytmilpahggceemaa", sum := "c14bcedbf26e73a0878376cf0feec39859dddbd6e2a586ab437ffd05aabc733e", func := "loop.example/g01158/laws.FnSafe", spec := "fnSafe", unfollowed := true, recurses := true, apart := false, narrowed := true }
def FnSafeUptoSaid : Prop := fnSafeUptoRow.holds Try.pinned (OpenSpec.upto fnSafeSpec)

/-- 'laws.FnHints', WHERE WHAT IT READS IS OF BULK AT MOST 1048576: true; the input reads as it did. -/
def fnHintsUptoRow : OpenClaim := { program := "ytmilpahggceemaa", sum := "c14bcedbf26e73a0878376cf0feec39859dddbd6e2a586ab437ffd05aabc733e", func := "loop.example/g01158/laws.FnHints", spec := "fnHints", unfollowed := true, recurses := true, apart := false, narrowed := true }
def FnHintsUptoSaid : Prop := fnHintsUptoRow.holds Try.pinned (OpenSpec.upto fnHintsSpec)

/-- 'laws.FnEntries', WHERE WHAT IT READS IS OF BULK AT MOST 1048576: true; the input reads as it did. -/
def fnEntriesUptoRow : OpenClaim := { program := "ytmilpahggceemaa", sum := "c14bcedbf26e73a0878376cf0feec39859dddbd6e2a586ab437ffd05aabc733e", func := "loop.example/g01158/laws.FnEntries", spec := "fnEntries", unfollowed := true, recurses := true, apart := false, narrowed := true }
def FnEntriesUptoSaid : Prop := fnEntriesUptoRow.holds Try.pinned (OpenSpec.upto fnEntriesSpec)

end Rows
end Go.Proofs.Ytmilpahggceemaa
